/- A part of the proof of PuzzlesBack: contracts of functions, with plain laws that they need. -/
import Derived.Test.YtmdkhbmhgcdpaaaVgVw
import Derived.Test.YtmdkhbmhgcdpaaaVgX1J
set_option linter.all false
set_option maxHeartbeats 8000000
namespace Go.Proofs.Try
open Go.Vg

/-! Mix -/
def pR (x : Nat) : Bool := decide ((x : Int) < 97) || decide (122 < (x : Int))
theorem mix1_pure (x : Nat) (hx : x ≤ 1114111) : Pure Try.prog 88 [.val (.int .i32 x)] (.bool (pR x)) := by
  unfold pR
  (refine Spec.of_body Try.func88 rfl (by rw [Try.ntmps88]; simp) 0 (by simp) ?_; rw [Try.results88, Try.ntmps88]; simp only [entry, zipArgs, Nat.reduceAdd])
  repeat (first | apply Wp.seq | apply Wp.block | (apply Run.next; (simp only [push_cast, seval] <;> (try simp (disch := omega) only [wI, wU, wC]) <;> exact rfl); (focus ((try simp only [push_cast, seval]) <;> exact sT))) | ((first | apply Run.nil | apply Wp.skip); dsimp only [sQ, tQ, bQ]) | (apply Wp.run; (dsimp only [List.map] <;> exact rfl); exact rfl) | (apply Wp.exit; dsimp only [sQ, tQ, bQ]; simp only [reduceIte]))
  (apply Wp.ret; (try dsimp only [sQ, tQ, bQ]); apply leave0; exact rfl; (simp only [push_cast, seval] <;> (try simp (disch := omega) only [wI, wU, wC]) <;> exact rfl); all_goals (try simp only [push_cast, seval]); (try rfl))
theorem pR_letter (c : UInt8) : pR c.toNat = !letter c := by
  unfold pR letter
  rw [Bool.not_and]
  congr 1
  · rw [← decide_not]; exact decide_eq_decide.2 (by omega)
  · rw [← decide_not]; exact decide_eq_decide.2 (by omega)
theorem any_isL (key : ByteArray) : (key.data.toList.any fun b => pR b.toNat) = !isL key := by
  unfold isL
  generalize key.data.toList = l
  induction l with
  | nil => rfl
  | cons c l ih => rw [List.any_cons, List.all_cons, ih, pR_letter, Bool.not_and]
theorem keyOk_pure (key : ByteArray) : Pure Try.prog 83 [.str key, .clo 88 []] (.bool (!isL key)) := by
  have h := containsFuncB 88 pR (Enters.of Try.func88 rfl rfl) mix1_pure (fun x hx => by unfold pR; rw [decide_eq_true (by omega : (122 : Int) < (x : Int))]; simp) key
  rw [any_isL] at h
  exact h
def kM (k n : Nat) : Int := ((k % n : Nat) : Int)
def sgB (back : Bool) : Int := if back = true then -1 else 1
def mixF (key : ByteArray) (back : Bool) (k : Nat) : Int := sgB back * (((key.data.toList.getD (k % key.size) 0).toNat : Int) - 97)
theorem mem8 {l : List UInt8} {j : Nat} (h : j < l.length) : l.getD j 0 ∈ l := by simp [h]
theorem isL_get {key : ByteArray} (h : isL key = true) {j : Nat} (hj : j < key.size) : 97 ≤ (key.data.toList.getD j 0).toNat ∧ (key.data.toList.getD j 0).toNat ≤ 122 := by
  have hl : j < key.data.toList.length := by rw [bszL]; exact hj
  have := List.all_eq_true.1 h (key.data.toList.getD j 0) (mem8 hl)
  unfold letter at this
  simp only [Bool.and_eq_true, decide_eq_true_eq] at this
  omega
theorem mixF_bd {key : ByteArray} (back : Bool) (h : isL key = true) (h0 : 0 < key.size) (k : Nat) : -1000 ≤ mixF key back k ∧ mixF key back k ≤ 1000 := by
  have := isL_get h (Nat.mod_lt k h0)
  unfold mixF sgB
  generalize key.data.toList.getD (k % key.size) 0 = c at this
  cases back
  · rw [if_neg (by simp)]; omega
  · rw [if_pos rfl]; omega
theorem mix2_pure {key : ByteArray} (back : Bool) (h : isL key = true) (h0 : 0 < key.size) (h12 : key.size ≤ 12) (k : Nat) (hk : k ≤ 1000) : Pure Try.prog 90 [.int k, .ref [.int (sgB back)] 0, .ref [.str key] 0] (.int (mixF key back k)) := by
  have hb := isL_get h (Nat.mod_lt k h0)
  have ht : Int.tmod (k : Int) (key.size : Int) = kM k key.size := rfl
  have hm : 0 ≤ kM k key.size ∧ kM k key.size < key.size := by
    have := Nat.mod_lt k h0
    unfold kM
    exact ⟨Int.natCast_nonneg _, by exact_mod_cast this⟩
  have hat : byteAt key (kM k key.size) = key.data.toList.getD (k % key.size) 0 := byteAtN key _
  unfold mixF
  generalize key.data.toList.getD (k % key.size) 0 = c at hb hat
  generalize kM k key.size = q at ht hm hat
  cases back with
  | true =>
    have es : sgB true = -1 := rfl
    (refine Spec.of_body Try.func90 rfl (by rw [Try.ntmps90]; simp) 0 (by simp) ?_; rw [Try.results90, Try.ntmps90]; simp only [entry, zipArgs, Nat.reduceAdd])
    repeat (first | apply Wp.seq | apply Wp.block | (apply Run.next; (simp only [push_cast, seval, ht, hat, es] <;> (try simp (disch := omega) only [wI, wU, wC]) <;> exact rfl); (focus ((try simp only [push_cast, seval, ht, hat, es]) <;> exact sT))) | ((first | apply Run.nil | apply Wp.skip); dsimp only [sQ, tQ, bQ]) | (apply Wp.run; (dsimp only [List.map] <;> exact rfl); exact rfl) | (apply Wp.exit; dsimp only [sQ, tQ, bQ]; simp only [reduceIte]) | (apply Run.gtrue; (simp only [push_cast, seval, ht, hat, es] <;> (try simp (disch := omega) only [wI, wU, wC]) <;> exact rfl); (simp only [push_cast, seval, ht, hat, es] <;> (try simp (disch := omega) only [wI, wU, wC]) <;> exact rfl)) | (apply Run.gfalse (.bool false); (simp only [push_cast, seval, ht, hat, es] <;> (try simp (disch := omega) only [wI, wU, wC]) <;> exact rfl); dsimp only [S.put, optG]) | (apply Wp.condT; (simp only [push_cast, seval, ht, hat, es] <;> (try simp (disch := omega) only [wI, wU, wC]) <;> exact rfl)) | (apply Wp.condF; (simp only [push_cast, seval, ht, hat, es] <;> (try simp (disch := omega) only [wI, wU, wC]) <;> exact rfl)))
    repeat (first | apply Wp.seq | apply Wp.block)
    (apply Wp.runD 10 mixed; (dsimp only [List.map] <;> exact rfl); exact rfl; kernel_rfl; (dsimp only [List.take] <;> exact rfl); (dsimp only [List.drop] <;> exact rfl); (((repeat (apply Abn.next; (simp only [push_cast, seval, ht, hat, es] <;> (try simp (disch := omega) only [wI, wU, wC]) <;> exact rfl); (focus ((try simp only [push_cast, seval, ht, hat, es]) <;> exact sT))))); exact Abn.nil))
    repeat (first | apply Wp.seq | apply Wp.block | (apply Run.next; (simp only [push_cast, seval, ht, hat, es] <;> (try simp (disch := omega) only [wI, wU, wC]) <;> exact rfl); (focus ((try simp only [push_cast, seval, ht, hat, es]) <;> exact sT))) | ((first | apply Run.nil | apply Wp.skip); dsimp only [sQ, tQ, bQ]) | (apply Wp.run; (dsimp only [List.map] <;> exact rfl); exact rfl) | (apply Wp.exit; dsimp only [sQ, tQ, bQ]; simp only [reduceIte]) | (apply Run.gtrue; (simp only [push_cast, seval, ht, hat, es] <;> (try simp (disch := omega) only [wI, wU, wC]) <;> exact rfl); (simp only [push_cast, seval, ht, hat, es] <;> (try simp (disch := omega) only [wI, wU, wC]) <;> exact rfl)) | (apply Run.gfalse (.bool false); (simp only [push_cast, seval, ht, hat, es] <;> (try simp (disch := omega) only [wI, wU, wC]) <;> exact rfl); dsimp only [S.put, optG]) | (apply Wp.condT; (simp only [push_cast, seval, ht, hat, es] <;> (try simp (disch := omega) only [wI, wU, wC]) <;> exact rfl)) | (apply Wp.condF; (simp only [push_cast, seval, ht, hat, es] <;> (try simp (disch := omega) only [wI, wU, wC]) <;> exact rfl)))
    (apply Wp.ret; (try dsimp only [sQ, tQ, bQ]); apply leave0; exact rfl; (simp only [push_cast, seval, ht, hat, es] <;> (try simp (disch := omega) only [wI, wU, wC]) <;> exact rfl); all_goals (try simp only [push_cast, seval, ht, hat, es]); (try rfl))
  | false =>
    have es : sgB false = 1 := rfl
    (refine Spec.of_body Try.func90 rfl (by rw [Try.ntmps90]; simp) 0 (by simp) ?_; rw [Try.results90, Try.ntmps90]; simp only [entry, zipArgs, Nat.reduceAdd])
    repeat (first | apply Wp.seq | apply Wp.block | (apply Run.next; (simp only [push_cast, seval, ht, hat, es] <;> (try simp (disch := omega) only [wI, wU, wC]) <;> exact rfl); (focus ((try simp only [push_cast, seval, ht, hat, es]) <;> exact sT))) | ((first | apply Run.nil | apply Wp.skip); dsimp only [sQ, tQ, bQ]) | (apply Wp.run; (dsimp only [List.map] <;> exact rfl); exact rfl) | (apply Wp.exit; dsimp only [sQ, tQ, bQ]; simp only [reduceIte]) | (apply Run.gtrue; (simp only [push_cast, seval, ht, hat, es] <;> (try simp (disch := omega) only [wI, wU, wC]) <;> exact rfl); (simp only [push_cast, seval, ht, hat, es] <;> (try simp (disch := omega) only [wI, wU, wC]) <;> exact rfl)) | (apply Run.gfalse (.bool false); (simp only [push_cast, seval, ht, hat, es] <;> (try simp (disch := omega) only [wI, wU, wC]) <;> exact rfl); dsimp only [S.put, optG]) | (apply Wp.condT; (simp only [push_cast, seval, ht, hat, es] <;> (try simp (disch := omega) only [wI, wU, wC]) <;> exact rfl)) | (apply Wp.condF; (simp only [push_cast, seval, ht, hat, es] <;> (try simp (disch := omega) only [wI, wU, wC]) <;> exact rfl)))
    repeat (first | apply Wp.seq | apply Wp.block)
    (apply Wp.runD 10 mixed; (dsimp only [List.map] <;> exact rfl); exact rfl; kernel_rfl; (dsimp only [List.take] <;> exact rfl); (dsimp only [List.drop] <;> exact rfl); (((repeat (apply Abn.next; (simp only [push_cast, seval, ht, hat, es] <;> (try simp (disch := omega) only [wI, wU, wC]) <;> exact rfl); (focus ((try simp only [push_cast, seval, ht, hat, es]) <;> exact sT))))); exact Abn.nil))
    repeat (first | apply Wp.seq | apply Wp.block | (apply Run.next; (simp only [push_cast, seval, ht, hat, es] <;> (try simp (disch := omega) only [wI, wU, wC]) <;> exact rfl); (focus ((try simp only [push_cast, seval, ht, hat, es]) <;> exact sT))) | ((first | apply Run.nil | apply Wp.skip); dsimp only [sQ, tQ, bQ]) | (apply Wp.run; (dsimp only [List.map] <;> exact rfl); exact rfl) | (apply Wp.exit; dsimp only [sQ, tQ, bQ]; simp only [reduceIte]) | (apply Run.gtrue; (simp only [push_cast, seval, ht, hat, es] <;> (try simp (disch := omega) only [wI, wU, wC]) <;> exact rfl); (simp only [push_cast, seval, ht, hat, es] <;> (try simp (disch := omega) only [wI, wU, wC]) <;> exact rfl)) | (apply Run.gfalse (.bool false); (simp only [push_cast, seval, ht, hat, es] <;> (try simp (disch := omega) only [wI, wU, wC]) <;> exact rfl); dsimp only [S.put, optG]) | (apply Wp.condT; (simp only [push_cast, seval, ht, hat, es] <;> (try simp (disch := omega) only [wI, wU, wC]) <;> exact rfl)) | (apply Wp.condF; (simp only [push_cast, seval, ht, hat, es] <;> (try simp (disch := omega) only [wI, wU, wC]) <;> exact rfl)))
    (apply Wp.ret; (try dsimp only [sQ, tQ, bQ]); apply leave0; exact rfl; (simp only [push_cast, seval, ht, hat, es] <;> (try simp (disch := omega) only [wI, wU, wC]) <;> exact rfl); all_goals (try simp only [push_cast, seval, ht, hat, es]); (try rfl))
def mixB (b key : ByteArray) (back : Bool) : ByteArray := ⟨(changeL (mixF key back) b.data.toList 0).toArray⟩
def keyB (key : ByteArray) : Bool := (decide (1 ≤ (key.size : Int)) && decide ((key.size : Int) ≤ 12)) && isL key
def mixV (b key : ByteArray) (back : Bool) : ByteArray × Int := if 200 < (b.size : Int) then (.empty, 2) else if keyB key = true then (mixB b key back, 0) else (.empty, 1)
theorem Mix_pure (b key : ByteArray) (back : Bool) : Pure Try.prog 44 [.str b, .str key, .bool back] (.tup [.str (mixV b key back).1, .int (mixV b key back).2]) := by
  have hw := within_pure (key.size : Int) 1 12
  have hko := keyOk_pure key
  unfold mixV keyB
  by_cases h1 : 200 < (b.size : Int)
  · have e1 : decide (200 < (b.size : Int)) = true := decide_eq_true h1
    rw [if_pos h1]
    (refine Spec.of_body Try.func44 rfl (by rw [Try.ntmps44]; simp) 0 (by simp) ?_; rw [Try.results44, Try.ntmps44]; simp only [entry, zipArgs, Nat.reduceAdd])
    repeat (first | apply Wp.seq | apply Wp.block | (apply Run.next; (simp only [push_cast, seval, e1] <;> (try simp (disch := omega) only [wI, wU, wC]) <;> exact rfl); (focus ((try simp only [push_cast, seval, e1]) <;> exact sT))) | ((first | apply Run.nil | apply Wp.skip); dsimp only [sQ, tQ, bQ]) | (apply Wp.run; (dsimp only [List.map] <;> exact rfl); exact rfl) | (apply Wp.exit; dsimp only [sQ, tQ, bQ]; simp only [reduceIte]) | (apply Run.gtrue; (simp only [push_cast, seval, e1] <;> (try simp (disch := omega) only [wI, wU, wC]) <;> exact rfl); (simp only [push_cast, seval, e1] <;> (try simp (disch := omega) only [wI, wU, wC]) <;> exact rfl)) | (apply Run.gfalse (.bool false); (simp only [push_cast, seval, e1] <;> (try simp (disch := omega) only [wI, wU, wC]) <;> exact rfl); dsimp only [S.put, optG]) | (apply Wp.condT; (simp only [push_cast, seval, e1] <;> (try simp (disch := omega) only [wI, wU, wC]) <;> exact rfl)) | (apply Wp.condF; (simp only [push_cast, seval, e1] <;> (try simp (disch := omega) only [wI, wU, wC]) <;> exact rfl)))
    (apply Wp.ret; (try dsimp only [sQ, tQ, bQ]); apply leave0; exact rfl; (simp only [push_cast, seval, e1] <;> (try simp (disch := omega) only [wI, wU, wC]) <;> exact rfl); all_goals (try simp only [push_cast, seval, e1]); (try rfl))
  · have e1 : decide (200 < (b.size : Int)) = false := decide_eq_false h1
    rw [if_neg h1]
    cases h2 : (decide (1 ≤ (key.size : Int)) && decide ((key.size : Int) ≤ 12)) with
    | false =>
      rw [h2] at hw
      rw [Bool.false_and, if_neg (by simp)]
      (refine Spec.of_body Try.func44 rfl (by rw [Try.ntmps44]; simp) 0 (by simp) ?_; rw [Try.results44, Try.ntmps44]; simp only [entry, zipArgs, Nat.reduceAdd])
      repeat (first | apply Wp.seq | apply Wp.block | (apply Run.next; (simp only [push_cast, seval, e1] <;> (try simp (disch := omega) only [wI, wU, wC]) <;> exact rfl); (focus ((try simp only [push_cast, seval, e1]) <;> exact sT))) | ((first | apply Run.nil | apply Wp.skip); dsimp only [sQ, tQ, bQ]) | (apply Wp.run; (dsimp only [List.map] <;> exact rfl); exact rfl) | (apply Wp.exit; dsimp only [sQ, tQ, bQ]; simp only [reduceIte]) | (apply Run.gtrue; (simp only [push_cast, seval, e1] <;> (try simp (disch := omega) only [wI, wU, wC]) <;> exact rfl); (simp only [push_cast, seval, e1] <;> (try simp (disch := omega) only [wI, wU, wC]) <;> exact rfl)) | (apply Run.gfalse (.bool false); (simp only [push_cast, seval, e1] <;> (try simp (disch := omega) only [wI, wU, wC]) <;> exact rfl); dsimp only [S.put, optG]) | (apply Wp.condT; (simp only [push_cast, seval, e1] <;> (try simp (disch := omega) only [wI, wU, wC]) <;> exact rfl)) | (apply Wp.condF; (simp only [push_cast, seval, e1] <;> (try simp (disch := omega) only [wI, wU, wC]) <;> exact rfl)))
      (apply Run.pureP; (simp only [push_cast, seval, e1] <;> (try simp (disch := omega) only [wI, wU, wC]) <;> exact rfl); (exact (Enters.of Try.func50 rfl rfl)); (exact hw); (focus (simp only [push_cast, seval, e1] <;> first | trivial | assumption | (refine ⟨?_, ?_⟩ <;> assumption) | (simp; done))); (try dsimp only [putA, optG]))
      repeat (first | apply Wp.seq | apply Wp.block | (apply Run.next; (simp only [push_cast, seval, e1] <;> (try simp (disch := omega) only [wI, wU, wC]) <;> exact rfl); (focus ((try simp only [push_cast, seval, e1]) <;> exact sT))) | ((first | apply Run.nil | apply Wp.skip); dsimp only [sQ, tQ, bQ]) | (apply Wp.run; (dsimp only [List.map] <;> exact rfl); exact rfl) | (apply Wp.exit; dsimp only [sQ, tQ, bQ]; simp only [reduceIte]) | (apply Run.gtrue; (simp only [push_cast, seval, e1] <;> (try simp (disch := omega) only [wI, wU, wC]) <;> exact rfl); (simp only [push_cast, seval, e1] <;> (try simp (disch := omega) only [wI, wU, wC]) <;> exact rfl)) | (apply Run.gfalse (.bool false); (simp only [push_cast, seval, e1] <;> (try simp (disch := omega) only [wI, wU, wC]) <;> exact rfl); dsimp only [S.put, optG]) | (apply Wp.condT; (simp only [push_cast, seval, e1] <;> (try simp (disch := omega) only [wI, wU, wC]) <;> exact rfl)) | (apply Wp.condF; (simp only [push_cast, seval, e1] <;> (try simp (disch := omega) only [wI, wU, wC]) <;> exact rfl)))
      (apply Wp.ret; (try dsimp only [sQ, tQ, bQ]); apply leave0; exact rfl; (simp only [push_cast, seval, e1] <;> (try simp (disch := omega) only [wI, wU, wC]) <;> exact rfl); all_goals (try simp only [push_cast, seval, e1]); (try rfl))
    | true =>
      rw [h2] at hw
      rw [Bool.true_and]
      simp only [Bool.and_eq_true, decide_eq_true_eq] at h2
      cases hk : isL key with
      | false =>
        rw [hk] at hko
        rw [if_neg (by simp)]
        (refine Spec.of_body Try.func44 rfl (by rw [Try.ntmps44]; simp) 0 (by simp) ?_; rw [Try.results44, Try.ntmps44]; simp only [entry, zipArgs, Nat.reduceAdd])
        repeat (first | apply Wp.seq | apply Wp.block | (apply Run.next; (simp only [push_cast, seval, e1] <;> (try simp (disch := omega) only [wI, wU, wC]) <;> exact rfl); (focus ((try simp only [push_cast, seval, e1]) <;> exact sT))) | ((first | apply Run.nil | apply Wp.skip); dsimp only [sQ, tQ, bQ]) | (apply Wp.run; (dsimp only [List.map] <;> exact rfl); exact rfl) | (apply Wp.exit; dsimp only [sQ, tQ, bQ]; simp only [reduceIte]) | (apply Run.gtrue; (simp only [push_cast, seval, e1] <;> (try simp (disch := omega) only [wI, wU, wC]) <;> exact rfl); (simp only [push_cast, seval, e1] <;> (try simp (disch := omega) only [wI, wU, wC]) <;> exact rfl)) | (apply Run.gfalse (.bool false); (simp only [push_cast, seval, e1] <;> (try simp (disch := omega) only [wI, wU, wC]) <;> exact rfl); dsimp only [S.put, optG]) | (apply Wp.condT; (simp only [push_cast, seval, e1] <;> (try simp (disch := omega) only [wI, wU, wC]) <;> exact rfl)) | (apply Wp.condF; (simp only [push_cast, seval, e1] <;> (try simp (disch := omega) only [wI, wU, wC]) <;> exact rfl)))
        (apply Run.pureP; (simp only [push_cast, seval, e1] <;> (try simp (disch := omega) only [wI, wU, wC]) <;> exact rfl); (exact (Enters.of Try.func50 rfl rfl)); (exact hw); (focus (simp only [push_cast, seval, e1] <;> first | trivial | assumption | (refine ⟨?_, ?_⟩ <;> assumption) | (simp; done))); (try dsimp only [putA, optG]))
        repeat (first | apply Wp.seq | apply Wp.block | (apply Run.next; (simp only [push_cast, seval, e1] <;> (try simp (disch := omega) only [wI, wU, wC]) <;> exact rfl); (focus ((try simp only [push_cast, seval, e1]) <;> exact sT))) | ((first | apply Run.nil | apply Wp.skip); dsimp only [sQ, tQ, bQ]) | (apply Wp.run; (dsimp only [List.map] <;> exact rfl); exact rfl) | (apply Wp.exit; dsimp only [sQ, tQ, bQ]; simp only [reduceIte]) | (apply Run.gtrue; (simp only [push_cast, seval, e1] <;> (try simp (disch := omega) only [wI, wU, wC]) <;> exact rfl); (simp only [push_cast, seval, e1] <;> (try simp (disch := omega) only [wI, wU, wC]) <;> exact rfl)) | (apply Run.gfalse (.bool false); (simp only [push_cast, seval, e1] <;> (try simp (disch := omega) only [wI, wU, wC]) <;> exact rfl); dsimp only [S.put, optG]) | (apply Wp.condT; (simp only [push_cast, seval, e1] <;> (try simp (disch := omega) only [wI, wU, wC]) <;> exact rfl)) | (apply Wp.condF; (simp only [push_cast, seval, e1] <;> (try simp (disch := omega) only [wI, wU, wC]) <;> exact rfl)))
        (apply Run.pureP; (simp only [push_cast, seval, e1] <;> (try simp (disch := omega) only [wI, wU, wC]) <;> exact rfl); (exact (Enters.of Try.func83 rfl rfl)); (exact hko); (focus (simp only [push_cast, seval, e1] <;> first | trivial | assumption | (refine ⟨?_, ?_⟩ <;> assumption) | (simp; done))); (try dsimp only [putA, optG]))
        repeat (first | apply Wp.seq | apply Wp.block | (apply Run.next; (simp only [push_cast, seval, e1] <;> (try simp (disch := omega) only [wI, wU, wC]) <;> exact rfl); (focus ((try simp only [push_cast, seval, e1]) <;> exact sT))) | ((first | apply Run.nil | apply Wp.skip); dsimp only [sQ, tQ, bQ]) | (apply Wp.run; (dsimp only [List.map] <;> exact rfl); exact rfl) | (apply Wp.exit; dsimp only [sQ, tQ, bQ]; simp only [reduceIte]) | (apply Run.gtrue; (simp only [push_cast, seval, e1] <;> (try simp (disch := omega) only [wI, wU, wC]) <;> exact rfl); (simp only [push_cast, seval, e1] <;> (try simp (disch := omega) only [wI, wU, wC]) <;> exact rfl)) | (apply Run.gfalse (.bool false); (simp only [push_cast, seval, e1] <;> (try simp (disch := omega) only [wI, wU, wC]) <;> exact rfl); dsimp only [S.put, optG]) | (apply Wp.condT; (simp only [push_cast, seval, e1] <;> (try simp (disch := omega) only [wI, wU, wC]) <;> exact rfl)) | (apply Wp.condF; (simp only [push_cast, seval, e1] <;> (try simp (disch := omega) only [wI, wU, wC]) <;> exact rfl)))
        (apply Wp.ret; (try dsimp only [sQ, tQ, bQ]); apply leave0; exact rfl; (simp only [push_cast, seval, e1] <;> (try simp (disch := omega) only [wI, wU, wC]) <;> exact rfl); all_goals (try simp only [push_cast, seval, e1]); (try rfl))
      | true =>
        rw [hk] at hko
        rw [if_pos rfl]
        have hch := change_pure b 90 [.ref [.int (sgB back)] 0, .ref [.str key] 0] (mixF key back) (Enters.of Try.func90 rfl rfl) (by simp only [push_cast]) (fun m => ⟨rfl, rfl⟩) (by omega) (fun k hkb => mix2_pure back hk (by omega) (by omega) k (by omega)) (fun k _ => mixF_bd back hk (by omega) k)
        unfold mixB
        generalize changeL (mixF key back) b.data.toList 0 = G at hch
        cases back with
        | true =>
          have es : sgB true = -1 := rfl
          rw [es] at hch
          (refine Spec.of_body Try.func44 rfl (by rw [Try.ntmps44]; simp) 0 (by simp) ?_; rw [Try.results44, Try.ntmps44]; simp only [entry, zipArgs, Nat.reduceAdd])
          repeat (first | apply Wp.seq | apply Wp.block | (apply Run.next; (simp only [push_cast, seval, e1] <;> (try simp (disch := omega) only [wI, wU, wC]) <;> exact rfl); (focus ((try simp only [push_cast, seval, e1]) <;> exact sT))) | ((first | apply Run.nil | apply Wp.skip); dsimp only [sQ, tQ, bQ]) | (apply Wp.run; (dsimp only [List.map] <;> exact rfl); exact rfl) | (apply Wp.exit; dsimp only [sQ, tQ, bQ]; simp only [reduceIte]) | (apply Run.gtrue; (simp only [push_cast, seval, e1] <;> (try simp (disch := omega) only [wI, wU, wC]) <;> exact rfl); (simp only [push_cast, seval, e1] <;> (try simp (disch := omega) only [wI, wU, wC]) <;> exact rfl)) | (apply Run.gfalse (.bool false); (simp only [push_cast, seval, e1] <;> (try simp (disch := omega) only [wI, wU, wC]) <;> exact rfl); dsimp only [S.put, optG]) | (apply Wp.condT; (simp only [push_cast, seval, e1] <;> (try simp (disch := omega) only [wI, wU, wC]) <;> exact rfl)) | (apply Wp.condF; (simp only [push_cast, seval, e1] <;> (try simp (disch := omega) only [wI, wU, wC]) <;> exact rfl)))
          (apply Run.pureP; (simp only [push_cast, seval, e1] <;> (try simp (disch := omega) only [wI, wU, wC]) <;> exact rfl); (exact (Enters.of Try.func50 rfl rfl)); (exact hw); (focus (simp only [push_cast, seval, e1] <;> first | trivial | assumption | (refine ⟨?_, ?_⟩ <;> assumption) | (simp; done))); (try dsimp only [putA, optG]))
          repeat (first | apply Wp.seq | apply Wp.block | (apply Run.next; (simp only [push_cast, seval, e1] <;> (try simp (disch := omega) only [wI, wU, wC]) <;> exact rfl); (focus ((try simp only [push_cast, seval, e1]) <;> exact sT))) | ((first | apply Run.nil | apply Wp.skip); dsimp only [sQ, tQ, bQ]) | (apply Wp.run; (dsimp only [List.map] <;> exact rfl); exact rfl) | (apply Wp.exit; dsimp only [sQ, tQ, bQ]; simp only [reduceIte]) | (apply Run.gtrue; (simp only [push_cast, seval, e1] <;> (try simp (disch := omega) only [wI, wU, wC]) <;> exact rfl); (simp only [push_cast, seval, e1] <;> (try simp (disch := omega) only [wI, wU, wC]) <;> exact rfl)) | (apply Run.gfalse (.bool false); (simp only [push_cast, seval, e1] <;> (try simp (disch := omega) only [wI, wU, wC]) <;> exact rfl); dsimp only [S.put, optG]) | (apply Wp.condT; (simp only [push_cast, seval, e1] <;> (try simp (disch := omega) only [wI, wU, wC]) <;> exact rfl)) | (apply Wp.condF; (simp only [push_cast, seval, e1] <;> (try simp (disch := omega) only [wI, wU, wC]) <;> exact rfl)))
          (apply Run.pureP; (simp only [push_cast, seval, e1] <;> (try simp (disch := omega) only [wI, wU, wC]) <;> exact rfl); (exact (Enters.of Try.func83 rfl rfl)); (exact hko); (focus (simp only [push_cast, seval, e1] <;> first | trivial | assumption | (refine ⟨?_, ?_⟩ <;> assumption) | (simp; done))); (try dsimp only [putA, optG]))
          repeat (first | apply Wp.seq | apply Wp.block | (apply Run.next; (simp only [push_cast, seval, e1] <;> (try simp (disch := omega) only [wI, wU, wC]) <;> exact rfl); (focus ((try simp only [push_cast, seval, e1]) <;> exact sT))) | ((first | apply Run.nil | apply Wp.skip); dsimp only [sQ, tQ, bQ]) | (apply Wp.run; (dsimp only [List.map] <;> exact rfl); exact rfl) | (apply Wp.exit; dsimp only [sQ, tQ, bQ]; simp only [reduceIte]) | (apply Run.gtrue; (simp only [push_cast, seval, e1] <;> (try simp (disch := omega) only [wI, wU, wC]) <;> exact rfl); (simp only [push_cast, seval, e1] <;> (try simp (disch := omega) only [wI, wU, wC]) <;> exact rfl)) | (apply Run.gfalse (.bool false); (simp only [push_cast, seval, e1] <;> (try simp (disch := omega) only [wI, wU, wC]) <;> exact rfl); dsimp only [S.put, optG]) | (apply Wp.condT; (simp only [push_cast, seval, e1] <;> (try simp (disch := omega) only [wI, wU, wC]) <;> exact rfl)) | (apply Wp.condF; (simp only [push_cast, seval, e1] <;> (try simp (disch := omega) only [wI, wU, wC]) <;> exact rfl)))
          (apply Run.pureP; (simp only [push_cast, seval, e1] <;> (try simp (disch := omega) only [wI, wU, wC]) <;> exact rfl); (exact (Enters.of Try.func89 rfl rfl)); (exact hch); (focus (simp only [push_cast, seval, e1] <;> first | trivial | assumption | (refine ⟨?_, ?_⟩ <;> assumption) | (simp; done))); (try dsimp only [putA, optG]))
          repeat (first | apply Wp.seq | apply Wp.block | (apply Run.next; (simp only [push_cast, seval, e1] <;> (try simp (disch := omega) only [wI, wU, wC]) <;> exact rfl); (focus ((try simp only [push_cast, seval, e1]) <;> exact sT))) | ((first | apply Run.nil | apply Wp.skip); dsimp only [sQ, tQ, bQ]) | (apply Wp.run; (dsimp only [List.map] <;> exact rfl); exact rfl) | (apply Wp.exit; dsimp only [sQ, tQ, bQ]; simp only [reduceIte]) | (apply Run.gtrue; (simp only [push_cast, seval, e1] <;> (try simp (disch := omega) only [wI, wU, wC]) <;> exact rfl); (simp only [push_cast, seval, e1] <;> (try simp (disch := omega) only [wI, wU, wC]) <;> exact rfl)) | (apply Run.gfalse (.bool false); (simp only [push_cast, seval, e1] <;> (try simp (disch := omega) only [wI, wU, wC]) <;> exact rfl); dsimp only [S.put, optG]) | (apply Wp.condT; (simp only [push_cast, seval, e1] <;> (try simp (disch := omega) only [wI, wU, wC]) <;> exact rfl)) | (apply Wp.condF; (simp only [push_cast, seval, e1] <;> (try simp (disch := omega) only [wI, wU, wC]) <;> exact rfl)))
          (apply Wp.ret; (try dsimp only [sQ, tQ, bQ]); apply leave0; exact rfl; (simp only [push_cast, seval, e1] <;> (try simp (disch := omega) only [wI, wU, wC]) <;> exact rfl); all_goals (try simp only [push_cast, seval, e1]); (try rfl))
        | false =>
          have es : sgB false = 1 := rfl
          rw [es] at hch
          (refine Spec.of_body Try.func44 rfl (by rw [Try.ntmps44]; simp) 0 (by simp) ?_; rw [Try.results44, Try.ntmps44]; simp only [entry, zipArgs, Nat.reduceAdd])
          repeat (first | apply Wp.seq | apply Wp.block | (apply Run.next; (simp only [push_cast, seval, e1] <;> (try simp (disch := omega) only [wI, wU, wC]) <;> exact rfl); (focus ((try simp only [push_cast, seval, e1]) <;> exact sT))) | ((first | apply Run.nil | apply Wp.skip); dsimp only [sQ, tQ, bQ]) | (apply Wp.run; (dsimp only [List.map] <;> exact rfl); exact rfl) | (apply Wp.exit; dsimp only [sQ, tQ, bQ]; simp only [reduceIte]) | (apply Run.gtrue; (simp only [push_cast, seval, e1] <;> (try simp (disch := omega) only [wI, wU, wC]) <;> exact rfl); (simp only [push_cast, seval, e1] <;> (try simp (disch := omega) only [wI, wU, wC]) <;> exact rfl)) | (apply Run.gfalse (.bool false); (simp only [push_cast, seval, e1] <;> (try simp (disch := omega) only [wI, wU, wC]) <;> exact rfl); dsimp only [S.put, optG]) | (apply Wp.condT; (simp only [push_cast, seval, e1] <;> (try simp (disch := omega) only [wI, wU, wC]) <;> exact rfl)) | (apply Wp.condF; (simp only [push_cast, seval, e1] <;> (try simp (disch := omega) only [wI, wU, wC]) <;> exact rfl)))
          (apply Run.pureP; (simp only [push_cast, seval, e1] <;> (try simp (disch := omega) only [wI, wU, wC]) <;> exact rfl); (exact (Enters.of Try.func50 rfl rfl)); (exact hw); (focus (simp only [push_cast, seval, e1] <;> first | trivial | assumption | (refine ⟨?_, ?_⟩ <;> assumption) | (simp; done))); (try dsimp only [putA, optG]))
          repeat (first | apply Wp.seq | apply Wp.block | (apply Run.next; (simp only [push_cast, seval, e1] <;> (try simp (disch := omega) only [wI, wU, wC]) <;> exact rfl); (focus ((try simp only [push_cast, seval, e1]) <;> exact sT))) | ((first | apply Run.nil | apply Wp.skip); dsimp only [sQ, tQ, bQ]) | (apply Wp.run; (dsimp only [List.map] <;> exact rfl); exact rfl) | (apply Wp.exit; dsimp only [sQ, tQ, bQ]; simp only [reduceIte]) | (apply Run.gtrue; (simp only [push_cast, seval, e1] <;> (try simp (disch := omega) only [wI, wU, wC]) <;> exact rfl); (simp only [push_cast, seval, e1] <;> (try simp (disch := omega) only [wI, wU, wC]) <;> exact rfl)) | (apply Run.gfalse (.bool false); (simp only [push_cast, seval, e1] <;> (try simp (disch := omega) only [wI, wU, wC]) <;> exact rfl); dsimp only [S.put, optG]) | (apply Wp.condT; (simp only [push_cast, seval, e1] <;> (try simp (disch := omega) only [wI, wU, wC]) <;> exact rfl)) | (apply Wp.condF; (simp only [push_cast, seval, e1] <;> (try simp (disch := omega) only [wI, wU, wC]) <;> exact rfl)))
          (apply Run.pureP; (simp only [push_cast, seval, e1] <;> (try simp (disch := omega) only [wI, wU, wC]) <;> exact rfl); (exact (Enters.of Try.func83 rfl rfl)); (exact hko); (focus (simp only [push_cast, seval, e1] <;> first | trivial | assumption | (refine ⟨?_, ?_⟩ <;> assumption) | (simp; done))); (try dsimp only [putA, optG]))
          repeat (first | apply Wp.seq | apply Wp.block | (apply Run.next; (simp only [push_cast, seval, e1] <;> (try simp (disch := omega) only [wI, wU, wC]) <;> exact rfl); (focus ((try simp only [push_cast, seval, e1]) <;> exact sT))) | ((first | apply Run.nil | apply Wp.skip); dsimp only [sQ, tQ, bQ]) | (apply Wp.run; (dsimp only [List.map] <;> exact rfl); exact rfl) | (apply Wp.exit; dsimp only [sQ, tQ, bQ]; simp only [reduceIte]) | (apply Run.gtrue; (simp only [push_cast, seval, e1] <;> (try simp (disch := omega) only [wI, wU, wC]) <;> exact rfl); (simp only [push_cast, seval, e1] <;> (try simp (disch := omega) only [wI, wU, wC]) <;> exact rfl)) | (apply Run.gfalse (.bool false); (simp only [push_cast, seval, e1] <;> (try simp (disch := omega) only [wI, wU, wC]) <;> exact rfl); dsimp only [S.put, optG]) | (apply Wp.condT; (simp only [push_cast, seval, e1] <;> (try simp (disch := omega) only [wI, wU, wC]) <;> exact rfl)) | (apply Wp.condF; (simp only [push_cast, seval, e1] <;> (try simp (disch := omega) only [wI, wU, wC]) <;> exact rfl)))
          (apply Run.pureP; (simp only [push_cast, seval, e1] <;> (try simp (disch := omega) only [wI, wU, wC]) <;> exact rfl); (exact (Enters.of Try.func89 rfl rfl)); (exact hch); (focus (simp only [push_cast, seval, e1] <;> first | trivial | assumption | (refine ⟨?_, ?_⟩ <;> assumption) | (simp; done))); (try dsimp only [putA, optG]))
          repeat (first | apply Wp.seq | apply Wp.block | (apply Run.next; (simp only [push_cast, seval, e1] <;> (try simp (disch := omega) only [wI, wU, wC]) <;> exact rfl); (focus ((try simp only [push_cast, seval, e1]) <;> exact sT))) | ((first | apply Run.nil | apply Wp.skip); dsimp only [sQ, tQ, bQ]) | (apply Wp.run; (dsimp only [List.map] <;> exact rfl); exact rfl) | (apply Wp.exit; dsimp only [sQ, tQ, bQ]; simp only [reduceIte]) | (apply Run.gtrue; (simp only [push_cast, seval, e1] <;> (try simp (disch := omega) only [wI, wU, wC]) <;> exact rfl); (simp only [push_cast, seval, e1] <;> (try simp (disch := omega) only [wI, wU, wC]) <;> exact rfl)) | (apply Run.gfalse (.bool false); (simp only [push_cast, seval, e1] <;> (try simp (disch := omega) only [wI, wU, wC]) <;> exact rfl); dsimp only [S.put, optG]) | (apply Wp.condT; (simp only [push_cast, seval, e1] <;> (try simp (disch := omega) only [wI, wU, wC]) <;> exact rfl)) | (apply Wp.condF; (simp only [push_cast, seval, e1] <;> (try simp (disch := omega) only [wI, wU, wC]) <;> exact rfl)))
          (apply Wp.ret; (try dsimp only [sQ, tQ, bQ]); apply leave0; exact rfl; (simp only [push_cast, seval, e1] <;> (try simp (disch := omega) only [wI, wU, wC]) <;> exact rfl); all_goals (try simp only [push_cast, seval, e1]); (try rfl))
end Go.Proofs.Try
namespace Go.Proofs.Try
open Go.Vg

section
variable {σ : Type}
def wghS (f : Int → List Int → σ → σ × List Int) (sides : List Int) (s : σ) : Nat → σ × List Int
  | 0 => (s, sides)
  | j + 1 => f (j - 1 : Int) (wghS f sides s j).2 (wghS f sides s j).1
/-- all weighings, in the order of the code; what is done with each that is even -/
def wgh (go : σ → List Int → Int → σ) : List Int → Nat → Int → Int → List Int → σ → σ × List Int
  | [], _, sum, used, sides, s => if sum = 0 then (go s sides used, sides) else (s, sides)
  | w :: ws, i, sum, used, sides, s => wghS (fun c sides s => wgh go ws (i + 1) (sum + c * w) (used + c * c) (sides.set i c) s) sides s 3
theorem wghS_len {f : Int → List Int → σ → σ × List Int} (hf : ∀ c sides s, (f c sides s).2.length = sides.length) (sides : List Int) (s : σ) (j : Nat) : (wghS f sides s j).2.length = sides.length := by
  induction j with
  | zero => rfl
  | succ j ih => rw [wghS, hf, ih]
theorem wgh_len (go : σ → List Int → Int → σ) : ∀ (ws : List Int) (i : Nat) (sum used : Int) (sides : List Int) (s : σ), (wgh go ws i sum used sides s).2.length = sides.length
  | [], _, _, _, _, _ => by simp only [wgh]; split <;> rfl
  | w :: ws, i, sum, used, sides, s => by
    rw [wgh]; exact wghS_len (fun c sides s => by rw [wgh_len go ws]; simp) _ _ _

def wtail (N yid wid n : Nat) (sides : List Int) : Mem := [⟨0, .row 1 [.yld yid 0]⟩, ⟨0, .row 1 (sides.map AV.int)⟩, ⟨0, .row 1 [.osl (N + 1) 0 0 n]⟩, ⟨0, .row 1 [.clo 98 [.optr wid 0 0 0, .optr N 0 0 0, .optr (N + 2) 0 0 0, .optr (N + 3) 0 0 0]]⟩]

theorem getK {K : σ → Mem} {N : Nat} (hK : ∀ s, (K s).length = N) (s : σ) (l : Mem) (k : Nat) : (K s ++ l)[N + k]? = l[k]? := by
  rw [List.getElem?_append_right (by rw [hK]; omega), hK]; congr 1; omega
theorem getK0 {K : σ → Mem} {N : Nat} (hK : ∀ s, (K s).length = N) (s : σ) (l : Mem) : (K s ++ l)[N]? = l[0]? := getK hK s l 0
theorem setK {K : σ → Mem} {N : Nat} (hK : ∀ s, (K s).length = N) (s : σ) (l : Mem) (k : Nat) (e : Ent) : (K s ++ l).set (N + k) e = K s ++ l.set k e := by
  show List.set (α := Ent) _ _ _ = _
  rw [List.set_append_right _ _ (by rw [hK]; omega), hK]; congr 2; omega
theorem setK0 {K : σ → Mem} {N : Nat} (hK : ∀ s, (K s).length = N) (s : σ) (l : Mem) (e : Ent) : (K s ++ l).set N e = K s ++ l.set 0 e := setK hK s l 0 e
theorem getL {K : σ → Mem} {i : Nat} {e : Ent} (h : ∀ s, (K s)[i]? = some e) (s : σ) (l : Mem) : (K s ++ l)[i]? = some e := by
  rw [List.getElem?_append_left (List.getElem?_eq_some_iff.1 (h s)).1]; exact h s
theorem lenK {K : σ → Mem} {N : Nat} (hK : ∀ s, (K s).length = N) (s : σ) (l : Mem) : (K s ++ l).length = N + l.length := by
  rw [List.length_append, hK]
theorem takeK {K : σ → Mem} {N : Nat} (hK : ∀ s, (K s).length = N) (s : σ) (l : Mem) (k : Nat) : (K s ++ l).take (N + k) = K s ++ l.take k := by
  rw [List.take_append, List.take_of_length_le (by rw [hK]; omega), hK]; congr 2; omega
theorem takeK0 {K : σ → Mem} {N : Nat} (hK : ∀ s, (K s).length = N) (s : σ) (l : Mem) : (K s ++ l).take N = K s := by
  have := takeK hK s l 0; simpa using this

theorem wok (K : σ → Mem) (N yid wid : Nat) (hK : ∀ s, (K s).length = N) (hN : wid < N) (hKok : ∀ s k, N ≤ k → ∀ e ∈ K s, e.kind.ok k) (hyid : yid < N) (s : σ) (sides : List Int) (n : Nat) : ∀ e ∈ (K s ++ wtail N yid wid n sides).take (N + 4), e.kind.ok (N + 4) := by
  rw [takeK hK]
  intro e he
  rcases List.mem_append.1 he with h | h
  · exact hKok s _ (by omega) e h
  · have h2 : ∀ e ∈ wtail N yid wid n sides, e.kind.ok (N + 4) := by
      unfold wtail
      simp only [push_cast, seval]
      omega
    exact h2 e h
variable (K : σ → Mem) (N yid wid : Nat) (hK : ∀ s, (K s).length = N) (hN : wid < N) (ws : List Int) (hw : ∀ s, (K s)[wid]? = some ⟨0, .row 1 [.ints ws]⟩) (hKok : ∀ s k, N ≤ k → ∀ e ∈ K s, e.kind.ok k) (hyid : yid < N)
  (go : σ → List Int → Int → σ)
  (hY : ∀ s sides used, sides.length = ws.length → YSpec Try.prog (.yld yid 0) [.osl (N + 1) 0 0 ws.length, .int used] (K s ++ wtail N yid wid ws.length sides) fun x m' => x = .bool true ∧ m' = K (go s sides used) ++ wtail N yid wid ws.length sides)
  (hws : bnd 10000 ws) (hn : ws.length ≤ 10)
include hK hN hw hKok hyid hY hws hn
set_option maxHeartbeats 4000000 in
theorem weigh98 : ∀ (rest pre : List Int) (hpr : ws = pre ++ rest) (p : Nat) (hp : pre.length = p) (i : Int) (hi : i = p) (sum used : Int) (sides : List Int) (s : σ) (hsl : sides.length = ws.length) (hs1 : -(100000 + 10000 * i) ≤ sum ∧ sum ≤ 100000 + 10000 * i) (hs2 : 0 ≤ used ∧ used ≤ i),
    Go.Vg.Spec Try.prog 98 [.int i, .int sum, .int used, .optr wid 0 0 0, .optr N 0 0 0, .optr (N + 2) 0 0 0, .optr (N + 3) 0 0 0] (K s ++ wtail N yid wid ws.length sides)
      fun x m' => x = .bool true ∧ m' = K (wgh go rest p sum used sides s).1 ++ wtail N yid wid ws.length (wgh go rest p sum used sides s).2 := by
  intro rest
  induction rest with
  | nil =>
    intro pre hpr p hp i hi sum used sides s hsl hs1 hs2
    have hpl : ws.length = pre.length := by rw [hpr]; simp
    unfold wtail
    (refine Spec.of_body Try.func98 rfl (by rw [Try.ntmps98]; simp) (N + 4) (by rw [lenK hK]; simp) ?_; rw [Try.results98, Try.ntmps98]; simp only [entry, zipArgs, Nat.reduceAdd])
    repeat (first | apply Wp.seq | apply Wp.block | (apply Run.next; (simp only [push_cast, seval, getK hK, getK0 hK, setK hK, setK0 hK, getL hw, lenK hK, hK, List.append_assoc, takeK hK, takeK0 hK] <;> (try simp (disch := omega) only [wI, wU, wC]) <;> exact rfl); (focus ((try simp only [push_cast, seval, getK hK, getK0 hK, setK hK, setK0 hK, getL hw, lenK hK, hK, List.append_assoc, takeK hK, takeK0 hK]) <;> exact sT))) | ((first | apply Run.nil | apply Wp.skip); dsimp only [sQ, tQ, bQ]) | (apply Wp.run; (dsimp only [List.map] <;> exact rfl); exact rfl) | (apply Wp.exit; dsimp only [sQ, tQ, bQ]; simp only [reduceIte]))
    (apply Wp.cond; (simp only [push_cast, seval, getK hK, getK0 hK, setK hK, setK0 hK, getL hw, lenK hK, hK, List.append_assoc, takeK hK, takeK0 hK] <;> (try simp (disch := omega) only [wI, wU, wC]) <;> exact rfl))
    · (intro hc; try simp only [decide_eq_true_eq, decide_eq_false_iff_not, Bool.and_eq_true, Bool.or_eq_true, Bool.not_eq_true, Bool.not_eq_false, Bool.not_eq_true', Bool.not_eq_false', Bool.and_eq_false_iff, Bool.or_eq_false_iff, Int.not_lt, Int.not_le, Int.ofNat_lt, Int.ofNat_le] at hc)
      by_cases h0 : sum = 0
      · subst h0
        repeat (first | apply Wp.seq | apply Wp.block | (apply Run.next; (simp only [push_cast, seval, getK hK, getK0 hK, setK hK, setK0 hK, getL hw, lenK hK, hK, List.append_assoc, takeK hK, takeK0 hK] <;> (try simp (disch := omega) only [wI, wU, wC]) <;> exact rfl); (focus ((try simp only [push_cast, seval, getK hK, getK0 hK, setK hK, setK0 hK, getL hw, lenK hK, hK, List.append_assoc, takeK hK, takeK0 hK]) <;> exact sT))) | ((first | apply Run.nil | apply Wp.skip); dsimp only [sQ, tQ, bQ]) | (apply Wp.run; (dsimp only [List.map] <;> exact rfl); exact rfl) | (apply Wp.exit; dsimp only [sQ, tQ, bQ]; simp only [reduceIte]))
        (try (apply Run.gtrue; (simp only [push_cast, seval, getK hK, getK0 hK, setK hK, setK0 hK, getL hw, lenK hK, hK, List.append_assoc, takeK hK, takeK0 hK] <;> (try simp (disch := omega) only [wI, wU, wC]) <;> exact rfl); (simp only [push_cast, seval, getK hK, getK0 hK, setK hK, setK0 hK, getL hw, lenK hK, hK, List.append_assoc, takeK hK, takeK0 hK] <;> (try simp (disch := omega) only [wI, wU, wC]) <;> exact rfl)))
        (apply Run.ycall; exact rfl; (simp only [push_cast, seval, getK hK, getK0 hK, setK hK, setK0 hK, getL hw, lenK hK, hK, List.append_assoc, takeK hK, takeK0 hK] <;> (try simp (disch := omega) only [wI, wU, wC]) <;> exact rfl); (simp only [push_cast, seval, getK hK, getK0 hK, setK hK, setK0 hK, getL hw, lenK hK, hK, List.append_assoc, takeK hK, takeK0 hK] <;> (try simp (disch := omega) only [wI, wU, wC]) <;> exact rfl); (exact hY s sides used hsl); (rintro _ _ ⟨rfl, rfl⟩; dsimp only [S.put, optG]))
        repeat (first | apply Wp.seq | apply Wp.block | (apply Run.next; (simp only [push_cast, seval, getK hK, getK0 hK, setK hK, setK0 hK, getL hw, lenK hK, hK, List.append_assoc, takeK hK, takeK0 hK] <;> (try simp (disch := omega) only [wI, wU, wC]) <;> exact rfl); (focus ((try simp only [push_cast, seval, getK hK, getK0 hK, setK hK, setK0 hK, getL hw, lenK hK, hK, List.append_assoc, takeK hK, takeK0 hK]) <;> exact sT))) | ((first | apply Run.nil | apply Wp.skip); dsimp only [sQ, tQ, bQ]) | (apply Wp.run; (dsimp only [List.map] <;> exact rfl); exact rfl) | (apply Wp.exit; dsimp only [sQ, tQ, bQ]; simp only [reduceIte]))
        (apply Wp.ret; (try dsimp only [sQ, tQ, bQ]); apply leaveK; exact rfl; (simp only [push_cast, seval, getK hK, getK0 hK, setK hK, setK0 hK, getL hw, lenK hK, hK, List.append_assoc, takeK hK, takeK0 hK] <;> (try simp (disch := omega) only [wI, wU, wC]) <;> exact rfl); (focus (first | (simp only [push_cast, seval, getK hK, getK0 hK, setK hK, setK0 hK, getL hw, lenK hK, hK, List.append_assoc, takeK hK, takeK0 hK]; done) | trivial | (simp only [push_cast, seval, getK hK, getK0 hK, setK hK, setK0 hK, getL hw, lenK hK, hK, List.append_assoc, takeK hK, takeK0 hK]; trivial) | (simp; done))); (focus (first | (simp only [push_cast, seval, getK hK, getK0 hK, setK hK, setK0 hK, getL hw, lenK hK, hK, List.append_assoc, takeK hK, takeK0 hK]; done) | trivial | (simp only [push_cast, seval, getK hK, getK0 hK, setK hK, setK0 hK, getL hw, lenK hK, hK, List.append_assoc, takeK hK, takeK0 hK]; trivial) | (simp; done))); (exact wok K N yid wid hK hN hKok hyid _ _ _); (try simp only [push_cast, seval, getK hK, getK0 hK, setK hK, setK0 hK, getL hw, lenK hK, hK, List.append_assoc, takeK hK, takeK0 hK]))
        simp [wgh, wtail]
      · repeat (first | apply Wp.seq | apply Wp.block | (apply Run.next; (simp only [push_cast, seval, getK hK, getK0 hK, setK hK, setK0 hK, getL hw, lenK hK, hK, List.append_assoc, takeK hK, takeK0 hK, h0] <;> (try simp (disch := omega) only [wI, wU, wC]) <;> exact rfl); (focus ((try simp only [push_cast, seval, getK hK, getK0 hK, setK hK, setK0 hK, getL hw, lenK hK, hK, List.append_assoc, takeK hK, takeK0 hK, h0]) <;> exact sT))) | ((first | apply Run.nil | apply Wp.skip); dsimp only [sQ, tQ, bQ]) | (apply Wp.run; (dsimp only [List.map] <;> exact rfl); exact rfl) | (apply Wp.exit; dsimp only [sQ, tQ, bQ]; simp only [reduceIte]))
        (try (apply Run.gfalse (.bool false); (simp only [push_cast, seval, getK hK, getK0 hK, setK hK, setK0 hK, getL hw, lenK hK, hK, List.append_assoc, takeK hK, takeK0 hK, h0] <;> (try simp (disch := omega) only [wI, wU, wC]) <;> exact rfl); dsimp only [S.put, optG]))
        repeat (first | apply Wp.seq | apply Wp.block | (apply Run.next; (simp only [push_cast, seval, getK hK, getK0 hK, setK hK, setK0 hK, getL hw, lenK hK, hK, List.append_assoc, takeK hK, takeK0 hK, h0] <;> (try simp (disch := omega) only [wI, wU, wC]) <;> exact rfl); (focus ((try simp only [push_cast, seval, getK hK, getK0 hK, setK hK, setK0 hK, getL hw, lenK hK, hK, List.append_assoc, takeK hK, takeK0 hK, h0]) <;> exact sT))) | ((first | apply Run.nil | apply Wp.skip); dsimp only [sQ, tQ, bQ]) | (apply Wp.run; (dsimp only [List.map] <;> exact rfl); exact rfl) | (apply Wp.exit; dsimp only [sQ, tQ, bQ]; simp only [reduceIte]))
        (apply Wp.ret; (try dsimp only [sQ, tQ, bQ]); apply leaveK; exact rfl; (simp only [push_cast, seval, getK hK, getK0 hK, setK hK, setK0 hK, getL hw, lenK hK, hK, List.append_assoc, takeK hK, takeK0 hK, h0] <;> (try simp (disch := omega) only [wI, wU, wC]) <;> exact rfl); (focus (first | (simp only [push_cast, seval, getK hK, getK0 hK, setK hK, setK0 hK, getL hw, lenK hK, hK, List.append_assoc, takeK hK, takeK0 hK, h0]; done) | trivial | (simp only [push_cast, seval, getK hK, getK0 hK, setK hK, setK0 hK, getL hw, lenK hK, hK, List.append_assoc, takeK hK, takeK0 hK, h0]; trivial) | (simp; done))); (focus (first | (simp only [push_cast, seval, getK hK, getK0 hK, setK hK, setK0 hK, getL hw, lenK hK, hK, List.append_assoc, takeK hK, takeK0 hK, h0]; done) | trivial | (simp only [push_cast, seval, getK hK, getK0 hK, setK hK, setK0 hK, getL hw, lenK hK, hK, List.append_assoc, takeK hK, takeK0 hK, h0]; trivial) | (simp; done))); (exact wok K N yid wid hK hN hKok hyid _ _ _); (try simp only [push_cast, seval, getK hK, getK0 hK, setK hK, setK0 hK, getL hw, lenK hK, hK, List.append_assoc, takeK hK, takeK0 hK, h0]))
        simp [wgh, h0]
    · (intro hc; try simp only [decide_eq_true_eq, decide_eq_false_iff_not, Bool.and_eq_true, Bool.or_eq_true, Bool.not_eq_true, Bool.not_eq_false, Bool.not_eq_true', Bool.not_eq_false', Bool.and_eq_false_iff, Bool.or_eq_false_iff, Int.not_lt, Int.not_le, Int.ofNat_lt, Int.ofNat_le] at hc)
      omega
  | cons w rest ih =>
    intro pre hpr p hp i hi sum used sides s hsl hs1 hs2
    subst hi
    have hpl : ws.length = pre.length + (rest.length + 1) := by rw [hpr]; simp
    have hwi : ws.getD p 0 = w := by rw [hpr, ← hp]; simp
    have hwb := hws w (by rw [hpr]; simp)
    unfold wtail
    (refine Spec.of_body Try.func98 rfl (by rw [Try.ntmps98]; simp) (N + 4) (by rw [lenK hK]; simp) ?_; rw [Try.results98, Try.ntmps98]; simp only [entry, zipArgs, Nat.reduceAdd])
    repeat (first | apply Wp.seq | apply Wp.block | (apply Run.next; (simp only [push_cast, seval, getK hK, getK0 hK, setK hK, setK0 hK, getL hw, lenK hK, hK, List.append_assoc, takeK hK, takeK0 hK] <;> (try simp (disch := omega) only [wI, wU, wC]) <;> exact rfl); (focus ((try simp only [push_cast, seval, getK hK, getK0 hK, setK hK, setK0 hK, getL hw, lenK hK, hK, List.append_assoc, takeK hK, takeK0 hK]) <;> exact sT))) | ((first | apply Run.nil | apply Wp.skip); dsimp only [sQ, tQ, bQ]) | (apply Wp.run; (dsimp only [List.map] <;> exact rfl); exact rfl) | (apply Wp.exit; dsimp only [sQ, tQ, bQ]; simp only [reduceIte]))
    (apply Wp.cond; (simp only [push_cast, seval, getK hK, getK0 hK, setK hK, setK0 hK, getL hw, lenK hK, hK, List.append_assoc, takeK hK, takeK0 hK] <;> (try simp (disch := omega) only [wI, wU, wC]) <;> exact rfl))
    · (intro hc; try simp only [decide_eq_true_eq, decide_eq_false_iff_not, Bool.and_eq_true, Bool.or_eq_true, Bool.not_eq_true, Bool.not_eq_false, Bool.not_eq_true', Bool.not_eq_false', Bool.and_eq_false_iff, Bool.or_eq_false_iff, Int.not_lt, Int.not_le, Int.ofNat_lt, Int.ofNat_le] at hc)
      omega
    · (intro hc; try simp only [decide_eq_true_eq, decide_eq_false_iff_not, Bool.and_eq_true, Bool.or_eq_true, Bool.not_eq_true, Bool.not_eq_false, Bool.not_eq_true', Bool.not_eq_false', Bool.and_eq_false_iff, Bool.or_eq_false_iff, Int.not_lt, Int.not_le, Int.ofNat_lt, Int.ofNat_le] at hc)
      repeat (first | apply Wp.seq | apply Wp.block | (apply Run.next; (simp only [push_cast, seval, getK hK, getK0 hK, setK hK, setK0 hK, getL hw, lenK hK, hK, List.append_assoc, takeK hK, takeK0 hK] <;> (try simp (disch := omega) only [wI, wU, wC]) <;> exact rfl); (focus ((try simp only [push_cast, seval, getK hK, getK0 hK, setK hK, setK0 hK, getL hw, lenK hK, hK, List.append_assoc, takeK hK, takeK0 hK]) <;> exact sT))) | ((first | apply Run.nil | apply Wp.skip); dsimp only [sQ, tQ, bQ]) | (apply Wp.run; (dsimp only [List.map] <;> exact rfl); exact rfl) | (apply Wp.exit; dsimp only [sQ, tQ, bQ]; simp only [reduceIte]))
      obtain ⟨f, hf⟩ : ∃ f : Int → List Int → σ → σ × List Int, f = fun c sides s => wgh go rest (p + 1) (sum + c * w) (used + c * c) (sides.set p c) s := ⟨_, rfl⟩
      have hfl : ∀ j, (wghS f sides s j).2.length = sides.length := fun j => wghS_len (fun c sides s => by rw [hf, wgh_len]; simp) _ _ _
      refine Wp.loop (fun j : Nat => { t := [(0, .int p), (1, .int sum), (2, .int used), (3, .optr wid 0 0 0), (4, .optr N 0 0 0), (5, .optr (N + 2) 0 0 0), (6, .optr (N + 3) 0 0 0), (11, .int (j - 1))], m := K (wghS f sides s j).1 ++ [⟨0, .row 1 [.yld yid 0]⟩, ⟨0, .row 1 ((wghS f sides s j).2.map AV.int)⟩, ⟨0, .row 1 [.osl (N + 1) 0 0 ws.length]⟩, ⟨0, .row 1 [.clo 98 [.optr wid 0 0 0, .optr N 0 0 0, .optr (N + 2) 0 0 0, .optr (N + 3) 0 0 0]]⟩], n := 50 }) (fun j => j ≤ 3) (fun j => 3 - j) 0 ?_ ?_ ?_
      · (refine Le.of ?_ ?_ rfl rfl <;> (try simp only [push_cast, seval, getK hK, getK0 hK, setK hK, setK0 hK, getL hw, lenK hK, hK, List.append_assoc, takeK hK, takeK0 hK, hwi]) <;> (try (with_reducible rfl)))
        all_goals rfl
      · omega
      · intro j hj
        have hjl := hfl j
        repeat (first | apply Wp.seq | apply Wp.block | (apply Run.next; (simp only [push_cast, seval, getK hK, getK0 hK, setK hK, setK0 hK, getL hw, lenK hK, hK, List.append_assoc, takeK hK, takeK0 hK, hwi] <;> (try simp (disch := omega) only [wI, wU, wC]) <;> exact rfl); (focus ((try simp only [push_cast, seval, getK hK, getK0 hK, setK hK, setK0 hK, getL hw, lenK hK, hK, List.append_assoc, takeK hK, takeK0 hK, hwi]) <;> exact sT))) | ((first | apply Run.nil | apply Wp.skip); dsimp only [sQ, tQ, bQ]) | (apply Wp.run; (dsimp only [List.map] <;> exact rfl); exact rfl) | (apply Wp.exit; dsimp only [sQ, tQ, bQ]; simp only [reduceIte]))
        (apply Wp.cond; (simp only [push_cast, seval, getK hK, getK0 hK, setK hK, setK0 hK, getL hw, lenK hK, hK, List.append_assoc, takeK hK, takeK0 hK, hwi] <;> (try simp (disch := omega) only [wI, wU, wC]) <;> exact rfl))
        · (intro hc; try simp only [decide_eq_true_eq, decide_eq_false_iff_not, Bool.and_eq_true, Bool.or_eq_true, Bool.not_eq_true, Bool.not_eq_false, Bool.not_eq_true', Bool.not_eq_false', Bool.and_eq_false_iff, Bool.or_eq_false_iff, Int.not_lt, Int.not_le, Int.ofNat_lt, Int.ofNat_le] at hc)
          have hcw : -10000 ≤ ((j : Int) - 1) * w ∧ ((j : Int) - 1) * w ≤ 10000 := by
            obtain rfl | rfl | rfl : j = 0 ∨ j = 1 ∨ j = 2 := by omega
            all_goals (simp; try omega)
          have hcc : 0 ≤ ((j : Int) - 1) * ((j : Int) - 1) ∧ ((j : Int) - 1) * ((j : Int) - 1) ≤ 1 := by
            obtain rfl | rfl | rfl : j = 0 ∨ j = 1 ∨ j = 2 := by omega
            all_goals simp
          repeat (first | apply Wp.seq | apply Wp.block | (apply Run.next; (simp only [push_cast, seval, getK hK, getK0 hK, setK hK, setK0 hK, getL hw, lenK hK, hK, List.append_assoc, takeK hK, takeK0 hK, hwi] <;> (try simp (disch := omega) only [wI, wU, wC]) <;> exact rfl); (focus ((try simp only [push_cast, seval, getK hK, getK0 hK, setK hK, setK0 hK, getL hw, lenK hK, hK, List.append_assoc, takeK hK, takeK0 hK, hwi]) <;> exact sT))) | ((first | apply Run.nil | apply Wp.skip); dsimp only [sQ, tQ, bQ]) | (apply Wp.run; (dsimp only [List.map] <;> exact rfl); exact rfl) | (apply Wp.exit; dsimp only [sQ, tQ, bQ]; simp only [reduceIte]))
          (apply Wp.runD 16 mixed; (dsimp only [List.map] <;> exact rfl); exact rfl; kernel_rfl; (dsimp only [List.take] <;> exact rfl); (dsimp only [List.drop] <;> exact rfl); (((repeat (apply Abn.next; (simp only [push_cast, seval, getK hK, getK0 hK, setK hK, setK0 hK, getL hw, lenK hK, hK, List.append_assoc, takeK hK, takeK0 hK, hwi] <;> (try simp (disch := omega) only [wI, wU, wC]) <;> exact rfl); (focus ((try simp only [push_cast, seval, getK hK, getK0 hK, setK hK, setK0 hK, getL hw, lenK hK, hK, List.append_assoc, takeK hK, takeK0 hK, hwi]) <;> exact sT))))); exact Abn.nil))
          (apply Run.spec (he := (Enters.of Try.func98 rfl rfl)); exact rfl; (simp only [push_cast, seval, getK hK, getK0 hK, setK hK, setK0 hK, getL hw, lenK hK, hK, List.append_assoc, takeK hK, takeK0 hK, hwi] <;> first | exact rfl | assumption); (simp only [push_cast, seval, getK hK, getK0 hK, setK hK, setK0 hK, getL hw, lenK hK, hK, List.append_assoc, takeK hK, takeK0 hK, hwi] <;> (try simp (disch := omega) only [wI, wU, wC]) <;> exact rfl); (exact ih (pre ++ [w]) (by rw [hpr]; simp) (p + 1) (by simp [hp]) (p + 1) (by simp) (sum + (j - 1) * w) (used + (j - 1) * (j - 1)) ((wghS f sides s j).2.set p (j - 1)) (wghS f sides s j).1 (by rw [List.length_set, hjl, hsl]) (by omega) (by omega)); (rintro _ _ ⟨rfl, rfl⟩; dsimp only [S.put, optG]))
          repeat (first | apply Wp.seq | apply Wp.block | (apply Run.next; (simp only [push_cast, seval, getK hK, getK0 hK, setK hK, setK0 hK, getL hw, lenK hK, hK, List.append_assoc, takeK hK, takeK0 hK, hwi] <;> (try simp (disch := omega) only [wI, wU, wC]) <;> exact rfl); (focus ((try simp only [push_cast, seval, getK hK, getK0 hK, setK hK, setK0 hK, getL hw, lenK hK, hK, List.append_assoc, takeK hK, takeK0 hK, hwi]) <;> exact sT))) | ((first | apply Run.nil | apply Wp.skip); dsimp only [sQ, tQ, bQ]) | (apply Wp.run; (dsimp only [List.map] <;> exact rfl); exact rfl) | (apply Wp.exit; dsimp only [sQ, tQ, bQ]; simp only [reduceIte]))
          (apply Wp.cond; (simp only [push_cast, seval, getK hK, getK0 hK, setK hK, setK0 hK, getL hw, lenK hK, hK, List.append_assoc, takeK hK, takeK0 hK, hwi] <;> (try simp (disch := omega) only [wI, wU, wC]) <;> exact rfl))
          · (intro hc; try simp only [decide_eq_true_eq, decide_eq_false_iff_not, Bool.and_eq_true, Bool.or_eq_true, Bool.not_eq_true, Bool.not_eq_false, Bool.not_eq_true', Bool.not_eq_false', Bool.and_eq_false_iff, Bool.or_eq_false_iff, Int.not_lt, Int.not_le, Int.ofNat_lt, Int.ofNat_le] at hc)
            cases hc
          · intro h2
            repeat (first | apply Wp.seq | apply Wp.block | (apply Run.next; (simp only [push_cast, seval, getK hK, getK0 hK, setK hK, setK0 hK, getL hw, lenK hK, hK, List.append_assoc, takeK hK, takeK0 hK, hwi] <;> (try simp (disch := omega) only [wI, wU, wC]) <;> exact rfl); (focus ((try simp only [push_cast, seval, getK hK, getK0 hK, setK hK, setK0 hK, getL hw, lenK hK, hK, List.append_assoc, takeK hK, takeK0 hK, hwi]) <;> exact sT))) | ((first | apply Run.nil | apply Wp.skip); dsimp only [sQ, tQ, bQ]) | (apply Wp.run; (dsimp only [List.map] <;> exact rfl); exact rfl) | (apply Wp.exit; dsimp only [sQ, tQ, bQ]; simp only [reduceIte]))
            refine ⟨j + 1, ?_, by omega, by omega⟩
            (refine Le.of ?_ ?_ rfl rfl <;> (try simp only [push_cast, seval, getK hK, getK0 hK, setK hK, setK0 hK, getL hw, lenK hK, hK, List.append_assoc, takeK hK, takeK0 hK, hwi]) <;> (try (with_reducible rfl)))
            · rw [wghS, hf]; rfl
            · congr 2; omega
        · (intro hc; try simp only [decide_eq_true_eq, decide_eq_false_iff_not, Bool.and_eq_true, Bool.or_eq_true, Bool.not_eq_true, Bool.not_eq_false, Bool.not_eq_true', Bool.not_eq_false', Bool.and_eq_false_iff, Bool.or_eq_false_iff, Int.not_lt, Int.not_le, Int.ofNat_lt, Int.ofNat_le] at hc)
          obtain rfl : j = 3 := by omega
          repeat (first | apply Wp.seq | apply Wp.block | (apply Run.next; (simp only [push_cast, seval, getK hK, getK0 hK, setK hK, setK0 hK, getL hw, lenK hK, hK, List.append_assoc, takeK hK, takeK0 hK, hwi] <;> (try simp (disch := omega) only [wI, wU, wC]) <;> exact rfl); (focus ((try simp only [push_cast, seval, getK hK, getK0 hK, setK hK, setK0 hK, getL hw, lenK hK, hK, List.append_assoc, takeK hK, takeK0 hK, hwi]) <;> exact sT))) | ((first | apply Run.nil | apply Wp.skip); dsimp only [sQ, tQ, bQ]) | (apply Wp.run; (dsimp only [List.map] <;> exact rfl); exact rfl) | (apply Wp.exit; dsimp only [sQ, tQ, bQ]; simp only [reduceIte]))
          (apply Wp.ret; (try dsimp only [sQ, tQ, bQ]); apply leaveK; exact rfl; (simp only [push_cast, seval, getK hK, getK0 hK, setK hK, setK0 hK, getL hw, lenK hK, hK, List.append_assoc, takeK hK, takeK0 hK, hwi] <;> (try simp (disch := omega) only [wI, wU, wC]) <;> exact rfl); (focus (first | (simp only [push_cast, seval, getK hK, getK0 hK, setK hK, setK0 hK, getL hw, lenK hK, hK, List.append_assoc, takeK hK, takeK0 hK, hwi]; done) | trivial | (simp only [push_cast, seval, getK hK, getK0 hK, setK hK, setK0 hK, getL hw, lenK hK, hK, List.append_assoc, takeK hK, takeK0 hK, hwi]; trivial) | (simp; done))); (focus (first | (simp only [push_cast, seval, getK hK, getK0 hK, setK hK, setK0 hK, getL hw, lenK hK, hK, List.append_assoc, takeK hK, takeK0 hK, hwi]; done) | trivial | (simp only [push_cast, seval, getK hK, getK0 hK, setK hK, setK0 hK, getL hw, lenK hK, hK, List.append_assoc, takeK hK, takeK0 hK, hwi]; trivial) | (simp; done))); (exact wok K N yid wid hK hN hKok hyid _ _ _); (try simp only [push_cast, seval, getK hK, getK0 hK, setK hK, setK0 hK, getL hw, lenK hK, hK, List.append_assoc, takeK hK, takeK0 hK, hwi]))
          rw [wgh, hf]

theorem weigh97 (lid : Nat) (load : Int) (hl : ∀ s, (K s)[lid]? = some ⟨0, .row 1 [.int load]⟩) (hld : -100000 ≤ load ∧ load ≤ 100000) (s : σ) :
    Go.Vg.Spec Try.prog 97 [.yld yid 0, .optr wid 0 0 0, .optr lid 0 0 0] (K s) fun _ m' => m' = K (wgh go ws 0 (0 - load) 0 (List.replicate ws.length 0) s).1 := by
  (refine Spec.of_body Try.func97 rfl (by rw [Try.ntmps97]; simp) N (by rw [hK]; simp) ?_; rw [Try.results97, Try.ntmps97]; simp only [entry, zipArgs, Nat.reduceAdd])
  repeat (first | apply Wp.seq | apply Wp.block | (apply Run.next; (simp only [push_cast, seval, getK hK, getK0 hK, setK hK, setK0 hK, getL hw, getL hl, lenK hK, hK, List.append_assoc, takeK hK, takeK0 hK, hw, hl] <;> (try simp (disch := omega) only [wI, wU, wC]) <;> exact rfl); (focus ((try simp only [push_cast, seval, getK hK, getK0 hK, setK hK, setK0 hK, getL hw, getL hl, lenK hK, hK, List.append_assoc, takeK hK, takeK0 hK, hw, hl]) <;> exact sT))) | ((first | apply Run.nil | apply Wp.skip); dsimp only [sQ, tQ, bQ]) | (apply Wp.run; (dsimp only [List.map] <;> exact rfl); exact rfl) | (apply Wp.exit; dsimp only [sQ, tQ, bQ]; simp only [reduceIte]))
  (apply Run.spec (he := (Enters.of Try.func98 rfl rfl)); exact rfl; (simp only [push_cast, seval, getK hK, getK0 hK, setK hK, setK0 hK, getL hw, getL hl, lenK hK, hK, List.append_assoc, takeK hK, takeK0 hK, hw, hl] <;> first | exact rfl | assumption); (simp only [push_cast, seval, getK hK, getK0 hK, setK hK, setK0 hK, getL hw, getL hl, lenK hK, hK, List.append_assoc, takeK hK, takeK0 hK, hw, hl] <;> (try simp (disch := omega) only [wI, wU, wC]) <;> exact rfl); (exact weigh98 K N yid wid hK hN ws hw hKok hyid go hY hws hn ws [] rfl 0 rfl 0 rfl (0 - load) 0 (List.replicate ws.length 0) s (by simp) (by omega) (by omega)); (rintro _ _ ⟨rfl, rfl⟩; dsimp only [S.put, optG]))
  repeat (first | apply Wp.seq | apply Wp.block | (apply Run.next; (simp only [push_cast, seval, getK hK, getK0 hK, setK hK, setK0 hK, getL hw, getL hl, lenK hK, hK, List.append_assoc, takeK hK, takeK0 hK, hw, hl] <;> (try simp (disch := omega) only [wI, wU, wC]) <;> exact rfl); (focus ((try simp only [push_cast, seval, getK hK, getK0 hK, setK hK, setK0 hK, getL hw, getL hl, lenK hK, hK, List.append_assoc, takeK hK, takeK0 hK, hw, hl]) <;> exact sT))) | ((first | apply Run.nil | apply Wp.skip); dsimp only [sQ, tQ, bQ]) | (apply Wp.run; (dsimp only [List.map] <;> exact rfl); exact rfl) | (apply Wp.exit; dsimp only [sQ, tQ, bQ]; simp only [reduceIte]))
  apply Run.nil
  apply leaveN; exact rfl; (simp only [push_cast, seval, getK hK, getK0 hK, setK hK, setK0 hK, getL hw, getL hl, lenK hK, hK, List.append_assoc, takeK hK, takeK0 hK, hw, hl] <;> (try simp (disch := omega) only [wI, wU, wC]) <;> exact rfl); (focus (first | (simp only [push_cast, seval, getK hK, getK0 hK, setK hK, setK0 hK, getL hw, getL hl, lenK hK, hK, List.append_assoc, takeK hK, takeK0 hK, hw, hl]; done) | trivial | (simp only [push_cast, seval, getK hK, getK0 hK, setK hK, setK0 hK, getL hw, getL hl, lenK hK, hK, List.append_assoc, takeK hK, takeK0 hK, hw, hl]; trivial) | (simp; done))); (focus (first | (simp only [push_cast, seval, getK hK, getK0 hK, setK hK, setK0 hK, getL hw, getL hl, lenK hK, hK, List.append_assoc, takeK hK, takeK0 hK, hw, hl]; done) | trivial | (simp only [push_cast, seval, getK hK, getK0 hK, setK hK, setK0 hK, getL hw, getL hl, lenK hK, hK, List.append_assoc, takeK hK, takeK0 hK, hw, hl]; trivial) | (simp; done)))
  · rw [takeK0 hK]; exact hKok _ _ (Nat.le_refl _)
  · rw [takeK0 hK]
end
end Go.Proofs.Try
namespace Go.Proofs.Try
open Go.Vg

theorem weighed1_pure (n : Int) : Pure Try.prog 96 [.int n] (.bool (!(decide (1 ≤ n) && decide (n ≤ 10000)))) := by
  (refine Spec.of_body Try.func96 rfl (by rw [Try.ntmps96]; simp) 0 (by simp) ?_; rw [Try.results96, Try.ntmps96]; simp only [entry, zipArgs, Nat.reduceAdd])
  repeat (first | apply Wp.seq | apply Wp.block | (apply Run.next; (simp only [push_cast, seval] <;> (try simp (disch := omega) only [wI, wU, wC]) <;> exact rfl); (focus ((try simp only [push_cast, seval]) <;> exact sT))) | ((first | apply Run.nil | apply Wp.skip); dsimp only [sQ, tQ, bQ]) | (apply Wp.run; (dsimp only [List.map] <;> exact rfl); exact rfl) | (apply Wp.exit; dsimp only [sQ, tQ, bQ]; simp only [reduceIte]))
  (apply Run.pureP; (simp only [push_cast, seval] <;> (try simp (disch := omega) only [wI, wU, wC]) <;> exact rfl); (exact (Enters.of Try.func50 rfl rfl)); (exact within_pure _ _ _); (focus (simp only [push_cast, seval] <;> first | trivial | assumption | (refine ⟨?_, ?_⟩ <;> assumption) | (simp; done))); (try dsimp only [putA, optG]))
  repeat (first | apply Wp.seq | apply Wp.block | (apply Run.next; (simp only [push_cast, seval] <;> (try simp (disch := omega) only [wI, wU, wC]) <;> exact rfl); (focus ((try simp only [push_cast, seval]) <;> exact sT))) | ((first | apply Run.nil | apply Wp.skip); dsimp only [sQ, tQ, bQ]) | (apply Wp.run; (dsimp only [List.map] <;> exact rfl); exact rfl) | (apply Wp.exit; dsimp only [sQ, tQ, bQ]; simp only [reduceIte]))
  (apply Wp.ret; (try dsimp only [sQ, tQ, bQ]); apply leave0; exact rfl; (simp only [push_cast, seval] <;> (try simp (disch := omega) only [wI, wU, wC]) <;> exact rfl); all_goals (try simp only [push_cast, seval]); (try rfl))

def weighedB (ws : List Int) (load : Int) : Bool := decide ((ws.length : Int) ≤ 10) && (decide (0 ≤ load) && decide (load ≤ 10000)) && ws.all fun n => decide (1 ≤ n) && decide (n ≤ 10000)

theorem weighed_pure (ws : List Int) (load : Int) : Pure Try.prog 60 [.ints ws, .int load] (.bool (weighedB ws load)) := by
  (refine Spec.of_body Try.func60 rfl (by rw [Try.ntmps60]; simp) 0 (by simp) ?_; rw [Try.results60, Try.ntmps60]; simp only [entry, zipArgs, Nat.reduceAdd])
  apply Wp.len 0; (simp only [push_cast, seval] <;> (try simp (disch := omega) only [wI, wU, wC]) <;> exact rfl)
  intro hlen
  simp only [List.length_map] at hlen
  repeat (first | apply Wp.seq | apply Wp.block | (apply Run.next; (simp only [push_cast, seval] <;> (try simp (disch := omega) only [wI, wU, wC]) <;> exact rfl); (focus ((try simp only [push_cast, seval]) <;> exact sT))) | ((first | apply Run.nil | apply Wp.skip); dsimp only [sQ, tQ, bQ]) | (apply Wp.run; (dsimp only [List.map] <;> exact rfl); exact rfl) | (apply Wp.exit; dsimp only [sQ, tQ, bQ]; simp only [reduceIte]))
  (apply Run.pureP; (simp only [push_cast, seval] <;> (try simp (disch := omega) only [wI, wU, wC]) <;> exact rfl); (exact (Enters.of Try.func50 rfl rfl)); (exact within_pure _ _ _); (focus (simp only [push_cast, seval] <;> first | trivial | assumption | (refine ⟨?_, ?_⟩ <;> assumption) | (simp; done))); (try dsimp only [putA, optG]))
  repeat (first | apply Wp.seq | apply Wp.block | (apply Run.next; (simp only [push_cast, seval] <;> (try simp (disch := omega) only [wI, wU, wC]) <;> exact rfl); (focus ((try simp only [push_cast, seval]) <;> exact sT))) | ((first | apply Run.nil | apply Wp.skip); dsimp only [sQ, tQ, bQ]) | (apply Wp.run; (dsimp only [List.map] <;> exact rfl); exact rfl) | (apply Wp.exit; dsimp only [sQ, tQ, bQ]; simp only [reduceIte]))
  (apply Run.pureP; (simp only [push_cast, seval] <;> (try simp (disch := omega) only [wI, wU, wC]) <;> exact rfl); (exact (Enters.of Try.func51 rfl rfl)); (exact containsFunc_pure ws 96 [] _ (Enters.of Try.func96 rfl rfl) trivial (fun _ => ⟨rfl, rfl⟩) (fun x _ => weighed1_pure x) hlen); (focus (simp only [push_cast, seval] <;> first | trivial | assumption | (refine ⟨?_, ?_⟩ <;> assumption) | (simp; done))); (try dsimp only [putA, optG]))
  repeat (first | apply Wp.seq | apply Wp.block | (apply Run.next; (simp only [push_cast, seval] <;> (try simp (disch := omega) only [wI, wU, wC]) <;> exact rfl); (focus ((try simp only [push_cast, seval]) <;> exact sT))) | ((first | apply Run.nil | apply Wp.skip); dsimp only [sQ, tQ, bQ]) | (apply Wp.run; (dsimp only [List.map] <;> exact rfl); exact rfl) | (apply Wp.exit; dsimp only [sQ, tQ, bQ]; simp only [reduceIte]))
  (apply Wp.ret; (try dsimp only [sQ, tQ, bQ]); apply leave0; exact rfl; (simp only [push_cast, seval] <;> (try simp (disch := omega) only [wI, wU, wC]) <;> exact rfl); all_goals (try simp only [push_cast, seval]); (try rfl))
  unfold weighedB
  rw [any_not]
  simp

theorem weighings_spec (ws : List Int) (load : Int) : Go.Vg.Spec Try.prog 64 [.ints ws, .int load] [] fun x m' => x = .clo 97 [.optr 0 0 0 0, .optr 1 0 0 0] ∧ m' = [⟨0, .row 1 [.ints ws]⟩, ⟨0, .row 1 [.int load]⟩] := by
  (refine Spec.of_body Try.func64 rfl (by rw [Try.ntmps64]; simp) 2 (by simp) ?_; rw [Try.results64, Try.ntmps64]; simp only [entry, zipArgs, Nat.reduceAdd])
  repeat (first | apply Wp.seq | apply Wp.block | (apply Run.next; (simp only [push_cast, seval] <;> (try simp (disch := omega) only [wI, wU, wC]) <;> exact rfl); (focus ((try simp only [push_cast, seval]) <;> exact sT))) | ((first | apply Run.nil | apply Wp.skip); dsimp only [sQ, tQ, bQ]) | (apply Wp.run; (dsimp only [List.map] <;> exact rfl); exact rfl) | (apply Wp.exit; dsimp only [sQ, tQ, bQ]; simp only [reduceIte]))
  (apply Wp.ret; (try dsimp only [sQ, tQ, bQ]); apply leaveK; exact rfl; (simp only [push_cast, seval] <;> (try simp (disch := omega) only [wI, wU, wC]) <;> exact rfl); (focus (first | (simp only [push_cast, seval]; done) | trivial | (simp only [push_cast, seval]; trivial) | (simp; done))); (focus (first | (simp only [push_cast, seval]; done) | trivial | (simp only [push_cast, seval]; trivial) | (simp; done))); (focus (first | (simp only [push_cast, seval]; done) | trivial | (simp only [push_cast, seval]; trivial) | (simp; done))); (try simp only [push_cast, seval]))

def sv : Option (List Int) → AV
  | none => .emp
  | some l => .ints l
theorem sv_ok (k : Nat) (o : Option (List Int)) : (sv o).ok k = True := by cases o <;> simp [sv, AV.ok, okL_int]
/-- what Weigh does with a weighing -/
def goW (s : Option (List Int) × Int) (sides : List Int) (used : Int) : Option (List Int) × Int := if s.2 < 0 ∨ used < s.2 then (some sides, used) else s
def bestW (ws : List Int) (load : Int) : Option (List Int) × Int := (wgh goW ws 0 (0 - load) 0 (List.replicate ws.length 0) (none, -1)).1
def weighV (ws : List Int) (load : Int) : AV × Int :=
  if weighedB ws load then (if (bestW ws load).2 < 0 then (.emp, 3) else (sv (bestW ws load).1, 0)) else (.emp, 1)

def Kw (ws : List Int) (load : Int) (L : Kind) (s : Option (List Int) × Int) : Mem := [⟨0, .row 1 [sv s.1]⟩, ⟨0, .row 1 [.int s.2]⟩, ⟨0, .row 1 [.ints ws]⟩, ⟨0, .row 1 [.int load]⟩, ⟨0, .dfr⟩, ⟨0, L⟩]

theorem weigh_pure (ws : List Int) (load : Int) : Pure Try.prog 20 [.ints ws, .int load] (.tup [(weighV ws load).1, .int (weighV ws load).2]) := by
  (refine Spec.of_body Try.func20 rfl (by rw [Try.ntmps20]; simp) 0 (by simp) ?_; rw [Try.results20, Try.ntmps20]; simp only [entry, zipArgs, Nat.reduceAdd])
  repeat (first | apply Wp.seq | apply Wp.block | (apply Run.next; (simp only [push_cast, seval] <;> (try simp (disch := omega) only [wI, wU, wC]) <;> exact rfl); (focus ((try simp only [push_cast, seval]) <;> exact sT))) | ((first | apply Run.nil | apply Wp.skip); dsimp only [sQ, tQ, bQ]) | (apply Wp.run; (dsimp only [List.map] <;> exact rfl); exact rfl) | (apply Wp.exit; dsimp only [sQ, tQ, bQ]; simp only [reduceIte]))
  (apply Run.pureP; (simp only [push_cast, seval] <;> (try simp (disch := omega) only [wI, wU, wC]) <;> exact rfl); (exact (Enters.of Try.func60 rfl rfl)); (exact weighed_pure _ _); (focus (simp only [push_cast, seval] <;> first | trivial | assumption | (refine ⟨?_, ?_⟩ <;> assumption) | (simp; done))); (try dsimp only [putA, optG]))
  repeat (first | apply Wp.seq | apply Wp.block | (apply Run.next; (simp only [push_cast, seval] <;> (try simp (disch := omega) only [wI, wU, wC]) <;> exact rfl); (focus ((try simp only [push_cast, seval]) <;> exact sT))) | ((first | apply Run.nil | apply Wp.skip); dsimp only [sQ, tQ, bQ]) | (apply Wp.run; (dsimp only [List.map] <;> exact rfl); exact rfl) | (apply Wp.exit; dsimp only [sQ, tQ, bQ]; simp only [reduceIte]))
  (apply Wp.cond; (simp only [push_cast, seval] <;> (try simp (disch := omega) only [wI, wU, wC]) <;> exact rfl))
  · intro hc
    repeat (first | apply Wp.seq | apply Wp.block | (apply Run.next; (simp only [push_cast, seval] <;> (try simp (disch := omega) only [wI, wU, wC]) <;> exact rfl); (focus ((try simp only [push_cast, seval]) <;> exact sT))) | ((first | apply Run.nil | apply Wp.skip); dsimp only [sQ, tQ, bQ]) | (apply Wp.run; (dsimp only [List.map] <;> exact rfl); exact rfl) | (apply Wp.exit; dsimp only [sQ, tQ, bQ]; simp only [reduceIte]))
    (apply Wp.ret; (try dsimp only [sQ, tQ, bQ]); apply leave0; exact rfl; (simp only [push_cast, seval] <;> (try simp (disch := omega) only [wI, wU, wC]) <;> exact rfl); all_goals (try simp only [push_cast, seval]); (try rfl))
    simp only [Bool.not_eq_true'] at hc
    simp [weighV, hc]
  · intro hc
    simp only [Bool.not_eq_false'] at hc
    have hwd := hc
    have hw := hc
    simp only [weighedB, Bool.and_eq_true, decide_eq_true_eq, List.all_eq_true] at hw
    obtain ⟨⟨hw1, hw2⟩, hw3⟩ := hw
    have hb : bnd 10000 ws := fun x hx => by have := hw3 x hx; omega
    repeat (first | apply Wp.seq | apply Wp.block | (apply Run.next; (simp only [push_cast, seval] <;> (try simp (disch := omega) only [wI, wU, wC]) <;> exact rfl); (focus ((try simp only [push_cast, seval]) <;> exact sT))) | ((first | apply Run.nil | apply Wp.skip); dsimp only [sQ, tQ, bQ]) | (apply Wp.run; (dsimp only [List.map] <;> exact rfl); exact rfl) | (apply Wp.exit; dsimp only [sQ, tQ, bQ]; simp only [reduceIte]))
    (apply Run.freshE (he := (Enters.of Try.func64 rfl rfl)); (simp only [push_cast, seval] <;> first | exact rfl | assumption); (simp only [push_cast, seval] <;> (try simp (disch := omega) only [wI, wU, wC]) <;> exact rfl); (exact weighings_spec _ _); (focus (first | (simp only [push_cast, seval]; done) | trivial | (simp only [push_cast, seval]; trivial) | (simp; done))); (simp only [push_cast, seval] <;> (try simp (disch := omega) only [wI, wU, wC]) <;> exact rfl); (simp only [push_cast, seval] <;> (try simp (disch := omega) only [wI, wU, wC]) <;> exact rfl); dsimp only [S.put, optG])
    repeat (first | apply Wp.seq | apply Wp.block | (apply Run.next; (simp only [push_cast, seval] <;> (try simp (disch := omega) only [wI, wU, wC]) <;> exact rfl); (focus ((try simp only [push_cast, seval]) <;> exact sT))) | ((first | apply Run.nil | apply Wp.skip); dsimp only [sQ, tQ, bQ]) | (apply Wp.run; (dsimp only [List.map] <;> exact rfl); exact rfl) | (apply Wp.exit; dsimp only [sQ, tQ, bQ]; simp only [reduceIte]))
    refine Wp.range (by (simp only [push_cast, seval] <;> (try simp (disch := omega) only [wI, wU, wC]) <;> exact rfl)) (Enters.of Try.func97 rfl rfl) (N := 4) rfl (C := fun j M => j = none ∧ ∃ s, s = bestW ws load ∧ M = [⟨0, .row 1 [sv s.1]⟩, ⟨0, .row 1 [.int s.2]⟩, ⟨0, .row 1 [.ints ws]⟩, ⟨0, .row 1 [.int load]⟩]) ?_ ?_
    · refine Go.Vg.Spec.mono (weigh97 (Kw ws load _) 6 5 2 (fun s => rfl) (by omega) ws (fun s => rfl) ?_ (by omega) goW ?_ hb (by omega) 3 load (fun s => rfl) (by omega) (none, -1)) ?_
      · intro s k hk
        unfold Kw
        simp only [sv_ok, push_cast]
        omega
      · intro s sides used hsl
        refine YSpec.of_body (id := 5) (ver := 0) rfl rfl (by simp) ?_
        intro L
        obtain ⟨o, b⟩ := s
        unfold Kw wtail
        dsimp only [bindP, List.cons_append, List.nil_append]
        repeat (first | apply Wp.seq | apply Wp.block | (apply Run.next; (simp only [push_cast, seval] <;> (try simp (disch := omega) only [wI, wU, wC]) <;> exact rfl); (focus ((try simp only [push_cast, seval]) <;> exact sT))) | ((first | apply Run.nil | apply Wp.skip); dsimp only [sQ, tQ, bQ]) | (apply Wp.run; (dsimp only [List.map] <;> exact rfl); exact rfl) | (apply Wp.exit; dsimp only [sQ, tQ, bQ]; simp only [reduceIte]))
        refine ⟨rfl, rfl, ?_⟩
        dsimp only [List.set]
        have htk : sides.take ws.length = sides := by rw [← hsl]; simp
        cases o with
        | none =>
          repeat (first | apply Wp.seq | apply Wp.block | (apply Run.next; (simp only [push_cast, seval, hsl, htk, sv] <;> (try simp (disch := omega) only [wI, wU, wC]) <;> exact rfl); (focus ((try simp only [push_cast, seval, hsl, htk, sv]) <;> exact sT))) | ((first | apply Run.nil | apply Wp.skip); dsimp only [sQ, tQ, bQ]) | (apply Wp.run; (dsimp only [List.map] <;> exact rfl); exact rfl) | (apply Wp.exit; dsimp only [sQ, tQ, bQ]; simp only [reduceIte]))
          (apply Wp.cond; (simp only [push_cast, seval, hsl, htk, sv] <;> (try simp (disch := omega) only [wI, wU, wC]) <;> exact rfl))
          · intro h2
            repeat (first | apply Wp.seq | apply Wp.block | (apply Run.next; (simp only [push_cast, seval, hsl, htk, sv] <;> (try simp (disch := omega) only [wI, wU, wC]) <;> exact rfl); (focus ((try simp only [push_cast, seval, hsl, htk, sv]) <;> exact sT))) | ((first | apply Run.nil | apply Wp.skip); dsimp only [sQ, tQ, bQ]) | (apply Wp.run; (dsimp only [List.map] <;> exact rfl); exact rfl) | (apply Wp.exit; dsimp only [sQ, tQ, bQ]; simp only [reduceIte]))
            (apply Run.freshV (he := (Enters.of Try.func53 rfl rfl)); (simp only [push_cast, seval, hsl, htk, sv] <;> first | exact rfl | assumption); (simp only [push_cast, seval, hsl, htk, sv] <;> (try simp (disch := omega) only [wI, wU, wC]) <;> exact rfl); (exact clone_spec sides (by omega)); (focus (first | (simp only [push_cast, seval, hsl, htk, sv]; done) | trivial | (simp only [push_cast, seval, hsl, htk, sv]; trivial) | (simp; done) | (intro x hx; simp only [List.mem_cons, List.not_mem_nil, or_false] at hx; rcases hx with rfl | rfl <;> first | exact .inl trivial | exact .inr ⟨_, _, _, _, rfl⟩))); (focus (first | (simp only [push_cast, seval, hsl, htk, sv]; done) | trivial | (simp only [push_cast, seval, hsl, htk, sv]; trivial) | (simp; done) | (intro x hx; simp only [List.mem_cons, List.not_mem_nil, or_false] at hx; rcases hx with rfl | rfl <;> first | exact .inl trivial | exact .inr ⟨_, _, _, _, rfl⟩))); (focus (first | (simp only [push_cast, seval, hsl, htk, sv]; done) | trivial | (simp only [push_cast, seval, hsl, htk, sv]; trivial) | (simp; done) | (intro x hx; simp only [List.mem_cons, List.not_mem_nil, or_false] at hx; rcases hx with rfl | rfl <;> first | exact .inl trivial | exact .inr ⟨_, _, _, _, rfl⟩))); (dsimp only [S.put, optG]; try dsimp only [AV.shift, List.length_nil, List.length_cons, List.nil_append, List.cons_append, Nat.zero_add, Nat.add_zero, Nat.reduceAdd]))
            (apply Run.freeze 26; (simp only [push_cast, seval, hsl, htk, sv] <;> (try simp (disch := omega) only [wI, wU, wC]) <;> exact rfl); (simp only [push_cast, seval, hsl, htk, sv] <;> (try simp (disch := omega) only [wI, wU, wC]) <;> exact rfl); (focus (try simp only [push_cast, seval, hsl, htk, sv]); (try (exact sT))); (focus (exact sT)); (simp only [push_cast, seval, hsl, htk, sv] <;> (try simp (disch := omega) only [wI, wU, wC]) <;> exact rfl); (simp only [push_cast, seval, hsl, htk, sv] <;> (try simp (disch := omega) only [wI, wU, wC]) <;> exact rfl))
            repeat (first | apply Wp.seq | apply Wp.block | (apply Run.next; (simp only [push_cast, seval, hsl, htk, sv] <;> (try simp (disch := omega) only [wI, wU, wC]) <;> exact rfl); (focus ((try simp only [push_cast, seval, hsl, htk, sv]) <;> exact sT))) | ((first | apply Run.nil | apply Wp.skip); dsimp only [sQ, tQ, bQ]) | (apply Wp.run; (dsimp only [List.map] <;> exact rfl); exact rfl) | (apply Wp.exit; dsimp only [sQ, tQ, bQ]; simp only [reduceIte]))
            refine ⟨rfl, ?_, rfl, ?_⟩
            · simp only [push_cast, seval, hsl, htk, sv]
            · simp only [Bool.or_eq_true, decide_eq_true_eq] at h2
              unfold goW
              rw [if_pos h2]; rfl
          · intro h2
            repeat (first | apply Wp.seq | apply Wp.block | (apply Run.next; (simp only [push_cast, seval, hsl, htk, sv] <;> (try simp (disch := omega) only [wI, wU, wC]) <;> exact rfl); (focus ((try simp only [push_cast, seval, hsl, htk, sv]) <;> exact sT))) | ((first | apply Run.nil | apply Wp.skip); dsimp only [sQ, tQ, bQ]) | (apply Wp.run; (dsimp only [List.map] <;> exact rfl); exact rfl) | (apply Wp.exit; dsimp only [sQ, tQ, bQ]; simp only [reduceIte]))
            refine ⟨rfl, ?_, rfl, ?_⟩
            · simp only [push_cast, seval, hsl, htk, sv]
            · simp only [Bool.or_eq_false_iff, decide_eq_false_iff_not] at h2
              unfold goW
              rw [if_neg (by simp only; omega)]; rfl
        | some l =>
          repeat (first | apply Wp.seq | apply Wp.block | (apply Run.next; (simp only [push_cast, seval, hsl, htk, sv] <;> (try simp (disch := omega) only [wI, wU, wC]) <;> exact rfl); (focus ((try simp only [push_cast, seval, hsl, htk, sv]) <;> exact sT))) | ((first | apply Run.nil | apply Wp.skip); dsimp only [sQ, tQ, bQ]) | (apply Wp.run; (dsimp only [List.map] <;> exact rfl); exact rfl) | (apply Wp.exit; dsimp only [sQ, tQ, bQ]; simp only [reduceIte]))
          (apply Wp.cond; (simp only [push_cast, seval, hsl, htk, sv] <;> (try simp (disch := omega) only [wI, wU, wC]) <;> exact rfl))
          · intro h2
            repeat (first | apply Wp.seq | apply Wp.block | (apply Run.next; (simp only [push_cast, seval, hsl, htk, sv] <;> (try simp (disch := omega) only [wI, wU, wC]) <;> exact rfl); (focus ((try simp only [push_cast, seval, hsl, htk, sv]) <;> exact sT))) | ((first | apply Run.nil | apply Wp.skip); dsimp only [sQ, tQ, bQ]) | (apply Wp.run; (dsimp only [List.map] <;> exact rfl); exact rfl) | (apply Wp.exit; dsimp only [sQ, tQ, bQ]; simp only [reduceIte]))
            (apply Run.freshV (he := (Enters.of Try.func53 rfl rfl)); (simp only [push_cast, seval, hsl, htk, sv] <;> first | exact rfl | assumption); (simp only [push_cast, seval, hsl, htk, sv] <;> (try simp (disch := omega) only [wI, wU, wC]) <;> exact rfl); (exact clone_spec sides (by omega)); (focus (first | (simp only [push_cast, seval, hsl, htk, sv]; done) | trivial | (simp only [push_cast, seval, hsl, htk, sv]; trivial) | (simp; done) | (intro x hx; simp only [List.mem_cons, List.not_mem_nil, or_false] at hx; rcases hx with rfl | rfl <;> first | exact .inl trivial | exact .inr ⟨_, _, _, _, rfl⟩))); (focus (first | (simp only [push_cast, seval, hsl, htk, sv]; done) | trivial | (simp only [push_cast, seval, hsl, htk, sv]; trivial) | (simp; done) | (intro x hx; simp only [List.mem_cons, List.not_mem_nil, or_false] at hx; rcases hx with rfl | rfl <;> first | exact .inl trivial | exact .inr ⟨_, _, _, _, rfl⟩))); (focus (first | (simp only [push_cast, seval, hsl, htk, sv]; done) | trivial | (simp only [push_cast, seval, hsl, htk, sv]; trivial) | (simp; done) | (intro x hx; simp only [List.mem_cons, List.not_mem_nil, or_false] at hx; rcases hx with rfl | rfl <;> first | exact .inl trivial | exact .inr ⟨_, _, _, _, rfl⟩))); (dsimp only [S.put, optG]; try dsimp only [AV.shift, List.length_nil, List.length_cons, List.nil_append, List.cons_append, Nat.zero_add, Nat.add_zero, Nat.reduceAdd]))
            (apply Run.freeze 26; (simp only [push_cast, seval, hsl, htk, sv] <;> (try simp (disch := omega) only [wI, wU, wC]) <;> exact rfl); (simp only [push_cast, seval, hsl, htk, sv] <;> (try simp (disch := omega) only [wI, wU, wC]) <;> exact rfl); (focus (try simp only [push_cast, seval, hsl, htk, sv]); (try (exact sT))); (focus (exact sT)); (simp only [push_cast, seval, hsl, htk, sv] <;> (try simp (disch := omega) only [wI, wU, wC]) <;> exact rfl); (simp only [push_cast, seval, hsl, htk, sv] <;> (try simp (disch := omega) only [wI, wU, wC]) <;> exact rfl))
            repeat (first | apply Wp.seq | apply Wp.block | (apply Run.next; (simp only [push_cast, seval, hsl, htk, sv] <;> (try simp (disch := omega) only [wI, wU, wC]) <;> exact rfl); (focus ((try simp only [push_cast, seval, hsl, htk, sv]) <;> exact sT))) | ((first | apply Run.nil | apply Wp.skip); dsimp only [sQ, tQ, bQ]) | (apply Wp.run; (dsimp only [List.map] <;> exact rfl); exact rfl) | (apply Wp.exit; dsimp only [sQ, tQ, bQ]; simp only [reduceIte]))
            refine ⟨rfl, ?_, rfl, ?_⟩
            · simp only [push_cast, seval, hsl, htk, sv]
            · simp only [Bool.or_eq_true, decide_eq_true_eq] at h2
              unfold goW
              rw [if_pos h2]; rfl
          · intro h2
            repeat (first | apply Wp.seq | apply Wp.block | (apply Run.next; (simp only [push_cast, seval, hsl, htk, sv] <;> (try simp (disch := omega) only [wI, wU, wC]) <;> exact rfl); (focus ((try simp only [push_cast, seval, hsl, htk, sv]) <;> exact sT))) | ((first | apply Run.nil | apply Wp.skip); dsimp only [sQ, tQ, bQ]) | (apply Wp.run; (dsimp only [List.map] <;> exact rfl); exact rfl) | (apply Wp.exit; dsimp only [sQ, tQ, bQ]; simp only [reduceIte]))
            refine ⟨rfl, ?_, rfl, ?_⟩
            · simp only [push_cast, seval, hsl, htk, sv]
            · simp only [Bool.or_eq_false_iff, decide_eq_false_iff_not] at h2
              unfold goW
              rw [if_neg (by simp only; omega)]; rfl
      · rintro x m' rfl
        exact ⟨_, none, ⟨rfl, _, rfl, rfl⟩, rfl, rfl⟩
    · rintro M j ⟨rfl, ⟨o, b⟩, hs, rfl⟩
      dsimp only [bQ, sQ, List.cons_append, List.nil_append]
      repeat (first | apply Wp.seq | apply Wp.block | (apply Run.next; (simp only [push_cast, seval, sv] <;> (try simp (disch := omega) only [wI, wU, wC]) <;> exact rfl); (focus ((try simp only [push_cast, seval, sv]) <;> exact sT))) | ((first | apply Run.nil | apply Wp.skip); dsimp only [sQ, tQ, bQ]) | (apply Wp.run; (dsimp only [List.map] <;> exact rfl); exact rfl) | (apply Wp.exit; dsimp only [sQ, tQ, bQ]; simp only [reduceIte]))
      (apply Wp.cond; (simp only [push_cast, seval, sv] <;> (try simp (disch := omega) only [wI, wU, wC]) <;> exact rfl))
      · (intro hc; try simp only [decide_eq_true_eq, decide_eq_false_iff_not, Bool.and_eq_true, Bool.or_eq_true, Bool.not_eq_true, Bool.not_eq_false, Bool.not_eq_true', Bool.not_eq_false', Bool.and_eq_false_iff, Bool.or_eq_false_iff, Int.not_lt, Int.not_le, Int.ofNat_lt, Int.ofNat_le] at hc)
        repeat (first | apply Wp.seq | apply Wp.block | (apply Run.next; (simp only [push_cast, seval, sv] <;> (try simp (disch := omega) only [wI, wU, wC]) <;> exact rfl); (focus ((try simp only [push_cast, seval, sv]) <;> exact sT))) | ((first | apply Run.nil | apply Wp.skip); dsimp only [sQ, tQ, bQ]) | (apply Wp.run; (dsimp only [List.map] <;> exact rfl); exact rfl) | (apply Wp.exit; dsimp only [sQ, tQ, bQ]; simp only [reduceIte]))
        (apply Wp.ret; (try dsimp only [sQ, tQ, bQ]); apply leaveM; (focus (first | (simp only [push_cast, seval, sv]; done) | trivial | (simp only [push_cast, seval, sv]; trivial) | (simp; done))); (focus (first | (simp only [push_cast, seval, sv]; done) | trivial | (simp only [push_cast, seval, sv]; trivial) | (simp; done))); (simp only [push_cast, seval, sv] <;> (try simp (disch := omega) only [wI, wU, wC]) <;> exact rfl); (focus (first | (simp only [push_cast, seval, sv]; done) | trivial | (simp only [push_cast, seval, sv]; trivial) | (simp; done))); (focus (first | (simp only [push_cast, seval, sv]; done) | trivial | (simp only [push_cast, seval, sv]; trivial) | (simp; done))); (focus (first | (simp only [push_cast, seval, sv]; done) | trivial | (simp only [push_cast, seval, sv]; trivial) | (simp; done))); (try simp only [push_cast, seval, sv]))
        simp [weighV, hwd, ← hs, hc]
      · (intro hc; try simp only [decide_eq_true_eq, decide_eq_false_iff_not, Bool.and_eq_true, Bool.or_eq_true, Bool.not_eq_true, Bool.not_eq_false, Bool.not_eq_true', Bool.not_eq_false', Bool.and_eq_false_iff, Bool.or_eq_false_iff, Int.not_lt, Int.not_le, Int.ofNat_lt, Int.ofNat_le] at hc)
        cases o with
        | none =>
          repeat (first | apply Wp.seq | apply Wp.block | (apply Run.next; (simp only [push_cast, seval, sv] <;> (try simp (disch := omega) only [wI, wU, wC]) <;> exact rfl); (focus ((try simp only [push_cast, seval, sv]) <;> exact sT))) | ((first | apply Run.nil | apply Wp.skip); dsimp only [sQ, tQ, bQ]) | (apply Wp.run; (dsimp only [List.map] <;> exact rfl); exact rfl) | (apply Wp.exit; dsimp only [sQ, tQ, bQ]; simp only [reduceIte]))
          (apply Wp.ret; (try dsimp only [sQ, tQ, bQ]); apply leaveM; (focus (first | (simp only [push_cast, seval, sv]; done) | trivial | (simp only [push_cast, seval, sv]; trivial) | (simp; done))); (focus (first | (simp only [push_cast, seval, sv]; done) | trivial | (simp only [push_cast, seval, sv]; trivial) | (simp; done))); (simp only [push_cast, seval, sv] <;> (try simp (disch := omega) only [wI, wU, wC]) <;> exact rfl); (focus (first | (simp only [push_cast, seval, sv]; done) | trivial | (simp only [push_cast, seval, sv]; trivial) | (simp; done))); (focus (first | (simp only [push_cast, seval, sv]; done) | trivial | (simp only [push_cast, seval, sv]; trivial) | (simp; done))); (focus (first | (simp only [push_cast, seval, sv]; done) | trivial | (simp only [push_cast, seval, sv]; trivial) | (simp; done))); (try simp only [push_cast, seval, sv]))
          simp only [weighV, hwd, ← hs, sv, if_true, if_neg (by omega : ¬ b < 0)]
        | some l =>
          repeat (first | apply Wp.seq | apply Wp.block | (apply Run.next; (simp only [push_cast, seval, sv] <;> (try simp (disch := omega) only [wI, wU, wC]) <;> exact rfl); (focus ((try simp only [push_cast, seval, sv]) <;> exact sT))) | ((first | apply Run.nil | apply Wp.skip); dsimp only [sQ, tQ, bQ]) | (apply Wp.run; (dsimp only [List.map] <;> exact rfl); exact rfl) | (apply Wp.exit; dsimp only [sQ, tQ, bQ]; simp only [reduceIte]))
          (apply Wp.ret; (try dsimp only [sQ, tQ, bQ]); apply leaveM; (focus (first | (simp only [push_cast, seval, sv]; done) | trivial | (simp only [push_cast, seval, sv]; trivial) | (simp; done))); (focus (first | (simp only [push_cast, seval, sv]; done) | trivial | (simp only [push_cast, seval, sv]; trivial) | (simp; done))); (simp only [push_cast, seval, sv] <;> (try simp (disch := omega) only [wI, wU, wC]) <;> exact rfl); (focus (first | (simp only [push_cast, seval, sv]; done) | trivial | (simp only [push_cast, seval, sv]; trivial) | (simp; done))); (focus (first | (simp only [push_cast, seval, sv]; done) | trivial | (simp only [push_cast, seval, sv]; trivial) | (simp; done))); (focus (first | (simp only [push_cast, seval, sv]; done) | trivial | (simp only [push_cast, seval, sv]; trivial) | (simp; done))); (try simp only [push_cast, seval, sv]))
          simp only [weighV, hwd, ← hs, sv, if_true, if_neg (by omega : ¬ b < 0)]
end Go.Proofs.Try
namespace Go.Proofs.Try
open Go.Vg

theorem works_shift : shiftV ⟨#[107, 101, 121, 32, 116, 111, 32, 114, 101, 100]⟩ 3 = (⟨#[110, 104, 98, 32, 119, 114, 32, 117, 104, 103]⟩, 0) := by decide
theorem works_weigh : bestW [1, 3, 9] 5 = (some [-1, -1, 1], 3) := by decide
theorem works_next : nextV [1, 4, 9, 16] = (25, 2, 0) := by decide

theorem works_c1 : Pure Try.prog 42 [.str ⟨#[107, 101, 121, 32, 116, 111, 32, 114, 101, 100]⟩, .int 3] (.tup [.str ⟨#[110, 104, 98, 32, 119, 114, 32, 117, 104, 103]⟩, .int 0]) := by
  have := shiftV_pure ⟨#[107, 101, 121, 32, 116, 111, 32, 114, 101, 100]⟩ 3
  rw [works_shift] at this; exact this
theorem works_c2 : Pure Try.prog 20 [.lst 1 [.int 1, .int 3, .int 9], .int 5] (.tup [.lst 1 [.int (-1), .int (-1), .int 1], .int 0]) := by
  have := weigh_pure [1, 3, 9] 5
  have e : weighV [1, 3, 9] 5 = (.ints [-1, -1, 1], 0) := by
    unfold weighV
    rw [if_pos (by decide), works_weigh]; rfl
  rw [e] at this; exact this
theorem works_c3 : Pure Try.prog 15 [.lst 1 [.int 1, .int 4, .int 9, .int 16]] (.tup [.int 25, .int 2, .int 0]) := by
  have := next_pure [1, 4, 9, 16]
  rw [works_next] at this; exact this
theorem works_c4 : Pure Try.prog 22 [.lst 1 [.int (-1), .int (-1), .int 1], .lst 1 [.int (-1), .int (-1), .int 1]] (.bool true) := by
  have := sameInts_pure [-1, -1, 1] [-1, -1, 1]
  exact this

theorem works_pure : Pure Try.prog 17 [] (.bool true) := by
  (refine Spec.of_body Try.func17 rfl (by rw [Try.ntmps17]; simp) 0 (by simp) ?_; rw [Try.results17, Try.ntmps17]; simp only [entry, zipArgs, Nat.reduceAdd])
  repeat (first | apply Wp.seq | apply Wp.block | (apply Run.next; (simp only [push_cast, seval] <;> (try simp (disch := omega) only [wI, wU, wC]) <;> exact rfl); (focus ((try simp only [push_cast, seval]) <;> exact sT))) | ((first | apply Run.nil | apply Wp.skip); dsimp only [sQ, tQ, bQ]) | (apply Wp.run; (dsimp only [List.map] <;> exact rfl); exact rfl) | (apply Wp.exit; dsimp only [sQ, tQ, bQ]; simp only [reduceIte]))
  (apply Run.pureP; (simp only [push_cast, seval] <;> (try simp (disch := omega) only [wI, wU, wC]) <;> exact rfl); (exact (Enters.of Try.func42 rfl rfl)); (exact works_c1); (focus (simp only [push_cast, seval] <;> first | trivial | assumption | (refine ⟨?_, ?_⟩ <;> assumption) | (simp; done))); (try dsimp only [putA, optG]))
  repeat (first | apply Wp.seq | apply Wp.block | (apply Run.next; (simp only [push_cast, seval] <;> (try simp (disch := omega) only [wI, wU, wC]) <;> exact rfl); (focus ((try simp only [push_cast, seval]) <;> exact sT))) | ((first | apply Run.nil | apply Wp.skip); dsimp only [sQ, tQ, bQ]) | (apply Wp.run; (dsimp only [List.map] <;> exact rfl); exact rfl) | (apply Wp.exit; dsimp only [sQ, tQ, bQ]; simp only [reduceIte]))
  (apply Run.pureFP; (simp only [push_cast, seval] <;> (try simp (disch := omega) only [wI, wU, wC]) <;> exact rfl); (exact (Enters.of Try.func20 rfl rfl)); (exact works_c2); (focus (simp only [push_cast, seval] <;> first | trivial | assumption | (refine ⟨?_, ?_⟩ <;> assumption) | (simp; done))); (try dsimp only [putA, optG]))
  repeat (first | apply Wp.seq | apply Wp.block | (apply Run.next; (simp only [push_cast, seval] <;> (try simp (disch := omega) only [wI, wU, wC]) <;> exact rfl); (focus ((try simp only [push_cast, seval]) <;> exact sT))) | ((first | apply Run.nil | apply Wp.skip); dsimp only [sQ, tQ, bQ]) | (apply Wp.run; (dsimp only [List.map] <;> exact rfl); exact rfl) | (apply Wp.exit; dsimp only [sQ, tQ, bQ]; simp only [reduceIte]))
  (apply Run.pureFP; (simp only [push_cast, seval] <;> (try simp (disch := omega) only [wI, wU, wC]) <;> exact rfl); (exact (Enters.of Try.func15 rfl rfl)); (exact works_c3); (focus (simp only [push_cast, seval] <;> first | trivial | assumption | (refine ⟨?_, ?_⟩ <;> assumption) | (simp; done))); (try dsimp only [putA, optG]))
  repeat (first | apply Wp.seq | apply Wp.block | (apply Run.next; (simp only [push_cast, seval] <;> (try simp (disch := omega) only [wI, wU, wC]) <;> exact rfl); (focus ((try simp only [push_cast, seval]) <;> exact sT))) | ((first | apply Run.nil | apply Wp.skip); dsimp only [sQ, tQ, bQ]) | (apply Wp.run; (dsimp only [List.map] <;> exact rfl); exact rfl) | (apply Wp.exit; dsimp only [sQ, tQ, bQ]; simp only [reduceIte]))
  (try (apply Run.gtrue; (simp only [push_cast, seval] <;> (try simp (disch := omega) only [wI, wU, wC]) <;> exact rfl); (simp only [push_cast, seval] <;> (try simp (disch := omega) only [wI, wU, wC]) <;> exact rfl)))
  repeat (first | apply Wp.seq | apply Wp.block | (apply Run.next; (simp only [push_cast, seval] <;> (try simp (disch := omega) only [wI, wU, wC]) <;> exact rfl); (focus ((try simp only [push_cast, seval]) <;> exact sT))) | ((first | apply Run.nil | apply Wp.skip); dsimp only [sQ, tQ, bQ]) | (apply Wp.run; (dsimp only [List.map] <;> exact rfl); exact rfl) | (apply Wp.exit; dsimp only [sQ, tQ, bQ]; simp only [reduceIte]))
  (try (apply Run.gtrue; (simp only [push_cast, seval] <;> (try simp (disch := omega) only [wI, wU, wC]) <;> exact rfl); (simp only [push_cast, seval] <;> (try simp (disch := omega) only [wI, wU, wC]) <;> exact rfl)))
  (apply Run.pureP; (simp only [push_cast, seval] <;> (try simp (disch := omega) only [wI, wU, wC]) <;> exact rfl); (exact (Enters.of Try.func22 rfl rfl)); (exact works_c4); (focus (simp only [push_cast, seval] <;> first | trivial | assumption | (refine ⟨?_, ?_⟩ <;> assumption) | (simp; done))); (try dsimp only [putA, optG]))
  repeat (first | apply Wp.seq | apply Wp.block | (apply Run.next; (simp only [push_cast, seval] <;> (try simp (disch := omega) only [wI, wU, wC]) <;> exact rfl); (focus ((try simp only [push_cast, seval]) <;> exact sT))) | ((first | apply Run.nil | apply Wp.skip); dsimp only [sQ, tQ, bQ]) | (apply Wp.run; (dsimp only [List.map] <;> exact rfl); exact rfl) | (apply Wp.exit; dsimp only [sQ, tQ, bQ]; simp only [reduceIte]))
  (apply Wp.ret; (try dsimp only [sQ, tQ, bQ]); apply leave0; exact rfl; (simp only [push_cast, seval] <;> (try simp (disch := omega) only [wI, wU, wC]) <;> exact rfl); all_goals (try simp only [push_cast, seval]); (try rfl))
end Go.Proofs.Try
