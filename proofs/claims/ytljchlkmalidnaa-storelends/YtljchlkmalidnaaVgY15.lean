/- A part of the proof of StoreLends: contracts of functions, with plain laws that they need. -/
import Derived.Test.YtljchlkmalidnaaVgY12
import Derived.Test.YtljchlkmalidnaaVgY13
set_option linter.all false
set_option linter.unusedVariables false
set_option linter.unusedSimpArgs false
set_option maxHeartbeats 8000000
namespace Go.Proofs.Try
open Go.Vg

/-! several benches in memory -/
mutual
theorem shift_ok (M : Nat) : ∀ (x : AV), x.ok 0 → x.shift M = x
  | .val _, _ => rfl
  | .any, _ => rfl
  | .lst _ l, h => by simp only [AV.shift, shiftL_ok M l h]
  | .osl id _ _ _, h => absurd h (Nat.not_lt_zero id)
  | .emp, _ => rfl
  | .ref xs _, h => by simp only [AV.shift, shiftL_ok M xs h]
  | .optr id _ _ _, h => absurd h (Nat.not_lt_zero id)
  | .agg xs, h => by simp only [AV.shift, shiftL_ok M xs h]
  | .tup xs, h => by simp only [AV.shift, shiftL_ok M xs h]
  | .clo _ xs, h => by simp only [AV.shift, shiftL_ok M xs h]
  | .bnd _ xs, h => by simp only [AV.shift, shiftL_ok M xs h]
  | .opt _ x, h => by simp only [AV.shift, shift_ok M x h]
  | .yld id _, h => absurd h (Nat.not_lt_zero id)
theorem shiftL_ok (M : Nat) : ∀ (l : List AV), okL 0 l → shiftL M l = l
  | [], _ => rfl
  | x :: l, h => by simp only [shiftL, shift_ok M x h.1, shiftL_ok M l h.2]
end
theorem shiftL_lentR (M : Nat) : ∀ (T : List (Nat × List Int)) (k : Nat), shiftL M (lentR 0 k T) = lentR M k T
  | [], _ => rfl
  | t :: T, k => by simp only [lentR, shiftL, AV.shift, shiftL_lentR M T (k + 1), Nat.zero_add]
abbrev shE (M : Nat) (e : Ent) : Ent := ⟨e.ver, e.kind.shift M⟩
theorem blk_shift (M : Nat) {ks : List St} {ls : List Ln} {e4 : Ent} {life : Int} {L I W : List Int} {vi : Nat} {T : List (Nat × List Int)} :
    (blk 0 ks ls ⟨0, .row 2 [storA ks ls]⟩ e4 life L vi I W T []).map (shE M) = blk M ks ls ⟨0, .row 2 [storA ks ls]⟩ (shE M e4) life L vi I W T [] := by
  have h1 : ∀ l : List Int, shiftL M (l.map AV.int) = l.map AV.int := fun l => shiftL_ok M _ (by simp only [push_cast])
  have h2 : shiftL M (ks.map stA) = ks.map stA := shiftL_ok M _ (by simp only [push_cast])
  have h3 : shiftL M (ls.map lnA) = ls.map lnA := shiftL_ok M _ (by simp only [push_cast])
  have h4 : (T.map lentE).map (shE M) = T.map lentE := by
    rw [List.map_map]
    exact List.map_congr_left fun t _ => by simp [lentE, shE, Kind.shift, h1]
  simp only [blk, benR, List.map_cons, List.map_append, h4, List.map_nil]
  simp [shE, Kind.shift, shiftL, AV.shift, h1, h2, h3, shiftL_lentR]
structure Bn where
  e4 : Ent
  vi : Nat
  I : List Int
  W : List Int
  T : List (Nat × List Int)
abbrev bn0 : Bn := ⟨⟨0, .row 1 []⟩, 0, [], [], []⟩
def bks (ks : List St) (ls : List Ln) : Nat → Nat → List Bn → Mem
  | _, _, [] => []
  | N, j, b :: bs => blk N ks ls ⟨0, .row 2 [storA ks ls]⟩ b.e4 (ks.getD j st0).life (loanP ls j ls.length) b.vi b.I b.W b.T (bks ks ls (N + (7 + b.T.length)) (j + 1) bs)
def bsz : List Bn → Nat
  | [] => 0
  | b :: bs => 7 + b.T.length + bsz bs
def bptr : Nat → List Bn → List AV
  | _, [] => []
  | N, b :: bs => .optr (N + 3) 1 0 0 :: bptr (N + (7 + b.T.length)) bs
theorem blk_app {N : Nat} {ks : List St} {ls : List Ln} {e0 e4 : Ent} {life : Int} {L I W : List Int} {vi : Nat} {T : List (Nat × List Int)} {G H : Mem} : blk N ks ls e0 e4 life L vi I W T G ++ H = blk N ks ls e0 e4 life L vi I W T (G ++ H) := by
  simp [blk]
theorem bptr_len : ∀ (bs : List Bn) (N : Nat), (bptr N bs).length = bs.length
  | [], _ => rfl
  | b :: bs, N => by simp [bptr, bptr_len bs]
theorem bks_len (ks : List St) (ls : List Ln) : ∀ (bs : List Bn) (N j : Nat), (bks ks ls N j bs).length = bsz bs
  | [], _, _ => rfl
  | b :: bs, N, j => by simp [bks, blk, bsz, bks_len ks ls bs]; omega
theorem bks_snoc (ks : List St) (ls : List Ln) (b : Bn) : ∀ (bs : List Bn) (N j : Nat), bks ks ls N j bs ++ blk (N + bsz bs) ks ls ⟨0, .row 2 [storA ks ls]⟩ b.e4 (ks.getD (j + bs.length) st0).life (loanP ls (j + bs.length : Nat) ls.length) b.vi b.I b.W b.T [] = bks ks ls N j (bs ++ [b])
  | [], N, j => by simp only [bks, bsz, List.nil_append, List.length_nil, Nat.add_zero]
  | a :: bs, N, j => by
    have := bks_snoc ks ls b bs (N + (7 + a.T.length)) (j + 1)
    rw [show j + 1 + bs.length = j + (a :: bs).length by simp; omega, show N + (7 + a.T.length) + bsz bs = N + bsz (a :: bs) by simp only [bsz]; omega] at this
    simp only [bks, List.cons_append]
    rw [← this]
    simp only [blk, List.cons_append, List.append_assoc]
theorem bptr_snoc (b : Bn) : ∀ (bs : List Bn) (N : Nat), bptr N (bs ++ [b]) = bptr N bs ++ [.optr (N + bsz bs + 3) 1 0 0]
  | [], N => by simp [bptr, bsz]
  | a :: bs, N => by
    simp only [List.cons_append, bptr, bptr_snoc b bs, bsz, ← Nat.add_assoc]
theorem bks_split (ks : List St) (ls : List Ln) : ∀ (bs : List Bn) (N j k : Nat), k < bs.length → ∃ (A G : Mem) (M : Nat), M = N + A.length ∧ (∀ d, (bptr N bs).getD k d = .optr (M + 3) 1 0 0) ∧
    ∀ b' : Bn, b'.T.length = (bs.getD k bn0).T.length → bks ks ls N j (bs.set k b') = A ++ blk M ks ls ⟨0, .row 2 [storA ks ls]⟩ b'.e4 (ks.getD (j + k) st0).life (loanP ls (j + k : Nat) ls.length) b'.vi b'.I b'.W b'.T G ∧ bptr N (bs.set k b') = bptr N bs
  | [], _, _, _, h => by simp at h
  | b :: bs, N, j, 0, _ => by
    refine ⟨[], bks ks ls (N + (7 + b.T.length)) (j + 1) bs, N, rfl, fun d => rfl, fun b' hb => ?_⟩
    simp only [List.getD_cons_zero] at hb
    simp only [List.set_cons_zero, bks, bptr, hb, List.nil_append, Nat.add_zero]
    exact ⟨trivial, trivial⟩
  | b :: bs, N, j, k + 1, h => by
    obtain ⟨A, G, M, h1, h2, h3⟩ := bks_split ks ls bs (N + (7 + b.T.length)) (j + 1) k (by simpa using h)
    refine ⟨blk N ks ls ⟨0, .row 2 [storA ks ls]⟩ b.e4 (ks.getD j st0).life (loanP ls j ls.length) b.vi b.I b.W b.T A, G, M, ?_, fun d => by simpa [bptr] using h2 d, fun b' hb => ?_⟩
    · rw [h1]; simp [blk]; omega
    · obtain ⟨q1, q2⟩ := h3 b' (by simpa using hb)
      rw [show j + 1 + k = j + (k + 1) by omega] at q1
      simp only [List.set_cons_succ, bks, bptr, blk_app, q1, q2]
      exact ⟨trivial, trivial⟩
end Go.Proofs.Try
