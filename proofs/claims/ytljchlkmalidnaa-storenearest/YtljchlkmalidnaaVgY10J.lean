/- A part of the proof of StoreNearest: contracts of functions, with plain laws that they need. -/
import Derived.Test.YtljchlkmalidnaaVgVw
import Derived.Test.YtljchlkmalidnaaVgA
import Derived.Test.YtljchlkmalidnaaVgT
import Derived.Test.YtljchlkmalidnaaVgDm
import Derived.Test.YtljchlkmalidnaaVgNm
import Derived.Test.YtljchlkmalidnaaVgY1J
set_option linter.all false
set_option maxHeartbeats 8000000
namespace Go.Proofs.Try
open Go.Vg

/-! whether an item fits -/
abbrev benF (ks : List St) (ls : List Ln) (life : Int) (L I W : List Int) (T : List (List Int)) : List AV :=
  [.lst 2 (ks.map stA), .lst 5 (ls.map lnA), .int life, .ints L, .ints I, .ints W, .lst 1 (T.map AV.ints)]
def fitB (ls : List Ln) (life : Int) (W : List Int) (T : List (List Int)) (loan item : Nat) : Bool :=
  decide (W.getD item 0 + (ls.getD loan ln0).uses ≤ life) && !(T.getD item []).any fun i => ovB (ls.getD i.toNat ln0) (ls.getD loan ln0)
theorem fits1_pure {ks : List St} {ls : List Ln} {life : Int} {L I W : List Int} {T : List (List Int)} (l : Ln) (i : Int) (hi : 0 ≤ i ∧ i < ls.length) (hl20 : ls.length ≤ 20) :
    Pure Try.prog 88 [.int i, .ref [.ref (benF ks ls life L I W T) 0] 0, .ref [.int l.kind, .int l.room, .int l.fr, .int l.to, .int l.uses] 0] (.bool (ovB (ls.getD i.toNat ln0) l)) := by
  generalize hx : ls.getD i.toNat ln0 = x
  (refine Spec.of_body Try.func88 rfl (by rw [Try.ntmps88]; simp) 0 (by simp) ?_; rw [Try.results88, Try.ntmps88]; simp only [entry, zipArgs, Nat.reduceAdd])
  repeat (first | apply Wp.seq | apply Wp.block | (apply Run.next; (simp only [push_cast, seval, hx] <;> (try simp (disch := omega) only [wI, wU, wC]) <;> exact rfl); (focus ((try simp only [push_cast, seval, hx]) <;> exact sT))) | ((first | apply Run.nil | apply Wp.skip); dsimp only [sQ, tQ, bQ]) | (apply Wp.run; (dsimp only [List.map] <;> exact rfl); exact rfl) | (apply Wp.exit; dsimp only [sQ, tQ, bQ]; simp only [reduceIte]))
  (apply Wp.runD 11 mixed; (dsimp only [List.map] <;> exact rfl); exact rfl; kernel_rfl; (dsimp only [List.take] <;> exact rfl); (dsimp only [List.drop] <;> exact rfl); (((repeat (apply Abn.next; (simp only [push_cast, seval, hx] <;> (try simp (disch := omega) only [wI, wU, wC]) <;> exact rfl); (focus ((try simp only [push_cast, seval, hx]) <;> exact sT)))); (apply Abn.pureP; (simp only [push_cast, seval, hx] <;> (try simp (disch := omega) only [wI, wU, wC]) <;> exact rfl); (exact (Enters.of Try.func62 rfl rfl)); (exact overlap_pure x l); (focus (simp only [push_cast, seval, hx] <;> first | trivial | assumption | (refine ⟨?_, ?_⟩ <;> assumption) | (simp; done))); (try dsimp only [putA, optG])); (repeat (apply Abn.next; (simp only [push_cast, seval, hx] <;> (try simp (disch := omega) only [wI, wU, wC]) <;> exact rfl); (focus ((try simp only [push_cast, seval, hx]) <;> exact sT))))); exact Abn.nil))
  repeat (first | apply Wp.seq | apply Wp.block | (apply Run.next; (simp only [push_cast, seval, hx] <;> (try simp (disch := omega) only [wI, wU, wC]) <;> exact rfl); (focus ((try simp only [push_cast, seval, hx]) <;> exact sT))) | ((first | apply Run.nil | apply Wp.skip); dsimp only [sQ, tQ, bQ]) | (apply Wp.run; (dsimp only [List.map] <;> exact rfl); exact rfl) | (apply Wp.exit; dsimp only [sQ, tQ, bQ]; simp only [reduceIte]))
  (apply Wp.ret; (try dsimp only [sQ, tQ, bQ]); apply leave0; exact rfl; (simp only [push_cast, seval, hx] <;> (try simp (disch := omega) only [wI, wU, wC]) <;> exact rfl); all_goals (try simp only [push_cast, seval, hx]); (try rfl))
theorem fits_pure {ks : List St} {ls : List Ln} {life : Int} {L I W : List Int} {T : List (List Int)} (loan item : Int) (hl : 0 ≤ loan ∧ loan < ls.length) (hi : 0 ≤ item ∧ item < T.length) (hW : W.length = T.length) (h20 : ls.length ≤ 20) (h8 : T.length ≤ 100)
    (hu : 0 ≤ (ls.getD loan.toNat ln0).uses ∧ (ls.getD loan.toNat ln0).uses ≤ 100) (hw : 0 ≤ W.getD item.toNat 0 ∧ W.getD item.toNat 0 ≤ 10000) (hT : ∀ x ∈ T.getD item.toNat [], 0 ≤ x ∧ x < (ls.length : Int)) (hTl : (T.getD item.toNat []).length ≤ 1000) :
    Pure Try.prog 68 [.ref (benF ks ls life L I W T) 0, .int loan, .int item] (.bool (fitB ls life W T loan.toNat item.toNat)) := by
  unfold fitB
  generalize hx : ls.getD loan.toNat ln0 = x at hu
  generalize hz : W.getD item.toNat 0 = z at hw
  generalize ht : T.getD item.toNat [] = t at hT hTl
  (refine Spec.of_body Try.func68 rfl (by rw [Try.ntmps68]; simp) 0 (by simp) ?_; rw [Try.results68, Try.ntmps68]; simp only [entry, zipArgs, Nat.reduceAdd])
  repeat (first | apply Wp.seq | apply Wp.block | (apply Run.next; (simp only [push_cast, seval, hx, hz, ht, hW] <;> (try simp (disch := omega) only [wI, wU, wC]) <;> exact rfl); (focus ((try simp only [push_cast, seval, hx, hz, ht, hW]) <;> exact sT))) | ((first | apply Run.nil | apply Wp.skip); dsimp only [sQ, tQ, bQ]) | (apply Wp.run; (dsimp only [List.map] <;> exact rfl); exact rfl) | (apply Wp.exit; dsimp only [sQ, tQ, bQ]; simp only [reduceIte]))
  (apply Wp.runD 28 mixed; (dsimp only [List.map] <;> exact rfl); exact rfl; kernel_rfl; (dsimp only [List.take] <;> exact rfl); (dsimp only [List.drop] <;> exact rfl); (((repeat (apply Abn.next; (simp only [push_cast, seval, hx, hz, ht, hW] <;> (try simp (disch := omega) only [wI, wU, wC]) <;> exact rfl); (focus ((try simp only [push_cast, seval, hx, hz, ht, hW]) <;> exact sT)))); (apply Abn.pureP; (simp only [push_cast, seval, hx, hz, ht, hW] <;> (try simp (disch := omega) only [wI, wU, wC]) <;> exact rfl); (exact (Enters.of Try.func87 rfl rfl)); (exact (containsFuncI t _ _ _ (Enters.of Try.func88 rfl rfl) (by simp only [push_cast]) (fun m => ⟨rfl, rfl⟩) (fun i hi => fits1_pure x i (hT i hi) h20) (by omega))); (focus (simp only [push_cast, seval, hx, hz, ht, hW] <;> first | trivial | assumption | (refine ⟨?_, ?_⟩ <;> assumption) | (simp; done))); (try dsimp only [putA, optG])); (repeat (apply Abn.next; (simp only [push_cast, seval, hx, hz, ht, hW] <;> (try simp (disch := omega) only [wI, wU, wC]) <;> exact rfl); (focus ((try simp only [push_cast, seval, hx, hz, ht, hW]) <;> exact sT))))); exact Abn.nil))
  repeat (first | apply Wp.seq | apply Wp.block | (apply Run.next; (simp only [push_cast, seval, hx, hz, ht, hW] <;> (try simp (disch := omega) only [wI, wU, wC]) <;> exact rfl); (focus ((try simp only [push_cast, seval, hx, hz, ht, hW]) <;> exact sT))) | ((first | apply Run.nil | apply Wp.skip); dsimp only [sQ, tQ, bQ]) | (apply Wp.run; (dsimp only [List.map] <;> exact rfl); exact rfl) | (apply Wp.exit; dsimp only [sQ, tQ, bQ]; simp only [reduceIte]))
  (apply Wp.ret; (try dsimp only [sQ, tQ, bQ]); apply leave0; exact rfl; (simp only [push_cast, seval, hx, hz, ht, hW] <;> (try simp (disch := omega) only [wI, wU, wC]) <;> exact rfl); all_goals (try simp only [push_cast, seval, hx, hz, ht, hW]); (try rfl))
end Go.Proofs.Try
set_option maxHeartbeats 8000000
namespace Go.Proofs.Try
open Go.Vg

/-! an item is lent, and taken back -/
theorem lentR_getD {N : Nat} : ∀ {T : List (Nat × List Int)} {k j : Nat} (d : AV), j < T.length → (lentR N k T).getD j d = .osl (N + (k + j)) (T.getD j (0, [])).1 0 (T.getD j (0, [])).2.length
  | [], _, _, _, h => by simp at h
  | t :: T, k, 0, _, _ => by simp [lentR]
  | t :: T, k, j + 1, d, h => by
    have := lentR_getD (N := N) (T := T) (k := k + 1) (j := j) d (by simpa using h)
    simp only [lentR, List.getD_cons_succ, this]
    rw [show k + 1 + j = k + (j + 1) by omega]
theorem lentR_set {N : Nat} : ∀ {T : List (Nat × List Int)} {k j : Nat} {v : Nat} {l : List Int}, (lentR N k T).set j (.osl (N + (k + j)) v 0 l.length) = lentR N k (T.set j (v, l))
  | [], _, _, _, _ => rfl
  | t :: T, k, 0, _, _ => by simp [lentR]
  | t :: T, k, j + 1, v, l => by
    have := lentR_set (N := N) (T := T) (k := k + 1) (j := j) (v := v) (l := l)
    simp only [lentR, List.set_cons_succ]
    rw [← this, show k + 1 + j = k + (j + 1) by omega]
theorem get7 {a0 a1 a2 a3 a4 a5 a6 : Ent} {l : Mem} {j : Nat} : (a0 :: a1 :: a2 :: a3 :: a4 :: a5 :: a6 :: l)[7 + j]? = l[j]? := by
  rw [show 7 + j = j + 7 by omega]; rfl
theorem set7 {a0 a1 a2 a3 a4 a5 a6 e : Ent} {l : Mem} {j : Nat} : (a0 :: a1 :: a2 :: a3 :: a4 :: a5 :: a6 :: l).set (7 + j) e = a0 :: a1 :: a2 :: a3 :: a4 :: a5 :: a6 :: l.set j e := by
  rw [show 7 + j = j + 7 by omega]; rfl
theorem lentE_get {T : List (Nat × List Int)} {G : Mem} {j : Nat} (h : j < T.length) : (T.map lentE ++ G)[j]? = some (lentE (T.getD j (0, []))) := by
  rw [List.getElem?_append_left (by simpa using h)]; simp [h]
theorem lentE_set {T : List (Nat × List Int)} {G : Mem} {j : Nat} (h : j < T.length) (v : Nat) (l : List Int) : (T.map lentE ++ G).set j ⟨v, .row 1 (l.map AV.int)⟩ = (T.set j (v, l)).map lentE ++ G := by
  rw [List.set_append_left _ _ (by simpa using h), List.map_set]; rfl
def lentT (T : List (Nat × List Int)) (j : Nat) (loan : Int) : List (Nat × List Int) := T.set j ((T.getD j (0, [])).1 + 1, (T.getD j (0, [])).2 ++ [loan])
theorem lend_spec {F G : Mem} {N : Nat} (hF : F.length = N) {ks : List St} {ls : List Ln} {e0 e4 : Ent} {life : Int} {L I W : List Int} {vi : Nat} {T : List (Nat × List Int)} (loan item : Int) (hl : 0 ≤ loan ∧ loan < ls.length) (hi : 0 ≤ item ∧ item < T.length) (hW : W.length = T.length)
    (h20 : ls.length ≤ 20) (h8 : T.length ≤ 100) (hI : I.length ≤ 1000) (hu : 0 ≤ (ls.getD loan.toNat ln0).uses ∧ (ls.getD loan.toNat ln0).uses ≤ 100) (hw : 0 ≤ W.getD item.toNat 0 ∧ W.getD item.toNat 0 ≤ 10000) (hTl : (T.getD item.toNat (0, [])).2.length ≤ 1000) :
    Go.Vg.Spec Try.prog 69 [.optr (N + 3) 1 0 0, .int loan, .int item] (F ++ blk N ks ls e0 e4 life L vi I W T G) (fun _ m' => m' = F ++ blk N ks ls e0 e4 life L (vi + 1) (I ++ [item]) (W.set item.toNat (W.getD item.toNat 0 + (ls.getD loan.toNat ln0).uses)) (lentT T item.toNat loan) G) := by
  unfold lentT
  generalize hx : ls.getD loan.toNat ln0 = x at hu
  generalize hz : W.getD item.toNat 0 = z at hw
  have hlg : ∀ d, (lentR N 7 T).getD item.toNat d = .osl (N + (7 + item.toNat)) (T.getD item.toNat (0, [])).1 0 (T.getD item.toNat (0, [])).2.length := fun d => lentR_getD d (by omega)
  have heg := lentE_get (T := T) (G := G) (j := item.toNat) (by omega)
  have hsg := fun v l => lentE_set (T := T) (G := G) (j := item.toNat) (by omega) v l
  have hrs := fun v l => lentR_set (N := N) (T := T) (k := 7) (j := item.toNat) (v := v) (l := l)
  generalize ht : T.getD item.toNat (0, []) = t at hTl hlg heg
  obtain ⟨tv, tl⟩ := t
  simp only at hTl hlg
  rw [lentE] at heg
  simp only at heg
  (refine Spec.of_bodyA Try.func69 rfl (by rw [Try.ntmps69]; simp) ?_; rw [Try.results69, Try.ntmps69]; simp only [entry, zipArgs, Nat.reduceAdd])
  repeat (first | apply Wp.seq | apply Wp.block | (apply Run.next; (simp only [push_cast, seval, hx, hz, hW, hlg, getF hF, getF0 hF, setF hF, setF0 hF, get7, set7, heg, lentR_len, hsg] <;> (try simp (disch := omega) only [wI, wU, wC]) <;> exact rfl); (focus ((try simp only [push_cast, seval, hx, hz, hW, hlg, getF hF, getF0 hF, setF hF, setF0 hF, get7, set7, heg, lentR_len, hsg]) <;> exact sT))) | ((first | apply Run.nil | apply Wp.skip); dsimp only [sQ, tQ, bQ]) | (apply Wp.run; (dsimp only [List.map] <;> exact rfl); exact rfl) | (apply Wp.exit; dsimp only [sQ, tQ, bQ]; simp only [reduceIte]))
  (apply Wp.cond; (simp only [push_cast, seval, hx, hz, hW, hlg, getF hF, getF0 hF, setF hF, setF0 hF, get7, set7, heg, lentR_len, hsg] <;> (try simp (disch := omega) only [wI, wU, wC]) <;> exact rfl))
  · (intro hc; try simp only [decide_eq_true_eq, decide_eq_false_iff_not, Bool.and_eq_true, Bool.or_eq_true, Bool.not_eq_true, Bool.not_eq_false, Bool.not_eq_true', Bool.not_eq_false', Bool.and_eq_false_iff, Bool.or_eq_false_iff, Int.not_lt, Int.not_le, Int.ofNat_lt, Int.ofNat_le] at hc)
    repeat (first | apply Wp.seq | apply Wp.block | (apply Run.next; (simp only [push_cast, seval, hx, hz, hW, hlg, getF hF, getF0 hF, setF hF, setF0 hF, get7, set7, heg, lentR_len, hsg] <;> (try simp (disch := omega) only [wI, wU, wC]) <;> exact rfl); (focus ((try simp only [push_cast, seval, hx, hz, hW, hlg, getF hF, getF0 hF, setF hF, setF0 hF, get7, set7, heg, lentR_len, hsg]) <;> exact sT))) | ((first | apply Run.nil | apply Wp.skip); dsimp only [sQ, tQ, bQ]) | (apply Wp.run; (dsimp only [List.map] <;> exact rfl); exact rfl) | (apply Wp.exit; dsimp only [sQ, tQ, bQ]; simp only [reduceIte]))
    (apply Wp.runE 18 18 mixed; (dsimp only [List.map] <;> exact rfl); exact rfl; kernel_rfl; ((repeat (apply Abe.next; exact rfl; (simp only [push_cast, seval, hx, hz, hW, hlg, getF hF, getF0 hF, setF hF, setF0 hF, get7, set7, heg, lentR_len, hsg] <;> (try simp (disch := omega) only [wI, wU, wC]) <;> exact rfl); (focus ((try simp only [push_cast, seval, hx, hz, hW, hlg, getF hF, getF0 hF, setF hF, setF0 hF, get7, set7, heg, lentR_len, hsg]) <;> exact sT)))); (apply Abe.eff; exact rfl; (simp only [push_cast, seval, hx, hz, hW, hlg, getF hF, getF0 hF, setF hF, setF0 hF, get7, set7, heg, lentR_len, hsg] <;> (try simp (disch := omega) only [wI, wU, wC]) <;> exact rfl); (focus ((try simp only [push_cast, seval, hx, hz, hW, hlg, getF hF, getF0 hF, setF hF, setF0 hF, get7, set7, heg, lentR_len, hsg]) <;> exact sT)); (try dsimp only [putA])); (repeat (apply Abe.next; exact rfl; (simp only [push_cast, seval, hx, hz, hW, hlg, getF hF, getF0 hF, setF hF, setF0 hF, get7, set7, heg, lentR_len, hsg] <;> (try simp (disch := omega) only [wI, wU, wC]) <;> exact rfl); (focus ((try simp only [push_cast, seval, hx, hz, hW, hlg, getF hF, getF0 hF, setF hF, setF0 hF, get7, set7, heg, lentR_len, hsg]) <;> exact sT)))); exact Abe.nil))
    repeat (first | apply Wp.seq | apply Wp.block | (apply Run.next; (simp only [push_cast, seval, hx, hz, hW, hlg, getF hF, getF0 hF, setF hF, setF0 hF, get7, set7, heg, lentR_len, hsg] <;> (try simp (disch := omega) only [wI, wU, wC]) <;> exact rfl); (focus ((try simp only [push_cast, seval, hx, hz, hW, hlg, getF hF, getF0 hF, setF hF, setF0 hF, get7, set7, heg, lentR_len, hsg]) <;> exact sT))) | ((first | apply Run.nil | apply Wp.skip); dsimp only [sQ, tQ, bQ]) | (apply Wp.run; (dsimp only [List.map] <;> exact rfl); exact rfl) | (apply Wp.exit; dsimp only [sQ, tQ, bQ]; simp only [reduceIte]))
    (apply Wp.runW 14 16 (fun m => m.set (N + (7 + item.toNat)) ⟨tv + 1, .row 1 ((tl ++ [loan]).map AV.int)⟩) mixed; (dsimp only [List.map] <;> exact rfl); exact rfl; kernel_rfl; kernel_rfl; (dsimp only; ((repeat (first | (apply AbW.bld; exact rfl; kernel_rfl; (simp only [push_cast, seval, hx, hz, hW, hlg, getF hF, getF0 hF, setF hF, setF0 hF, get7, set7, heg, lentR_len, hsg] <;> (try simp (disch := omega) only [wI, wU, wC]) <;> exact rfl); (focus ((try simp only [push_cast, seval, hx, hz, hW, hlg, getF hF, getF0 hF, setF hF, setF0 hF, get7, set7, heg, lentR_len, hsg]) <;> exact sT)); dsimp only [upd]) | (apply AbW.both; exact rfl; kernel_rfl; (simp only [push_cast, seval, hx, hz, hW, hlg, getF hF, getF0 hF, setF hF, setF0 hF, get7, set7, heg, lentR_len, hsg] <;> (try simp (disch := omega) only [wI, wU, wC]) <;> exact rfl); (focus ((try simp only [push_cast, seval, hx, hz, hW, hlg, getF hF, getF0 hF, setF hF, setF0 hF, get7, set7, heg, lentR_len, hsg]) <;> exact sT)); (simp only [push_cast, seval, hx, hz, hW, hlg, getF hF, getF0 hF, setF hF, setF0 hF, get7, set7, heg, lentR_len, hsg] <;> (try simp (disch := omega) only [wI, wU, wC]) <;> exact rfl); (focus ((try simp only [push_cast, seval, hx, hz, hW, hlg, getF hF, getF0 hF, setF hF, setF0 hF, get7, set7, heg, lentR_len, hsg]) <;> exact sT)); dsimp only [upd]) | (apply AbW.eff1; exact rfl; exact rfl; (simp only [push_cast, seval, hx, hz, hW, hlg, getF hF, getF0 hF, setF hF, setF0 hF, get7, set7, heg, lentR_len, hsg] <;> (try simp (disch := omega) only [wI, wU, wC]) <;> exact rfl); (focus ((try simp only [push_cast, seval, hx, hz, hW, hlg, getF hF, getF0 hF, setF hF, setF0 hF, get7, set7, heg, lentR_len, hsg]) <;> exact sT)); (try dsimp only [upd])) | (apply AbW.eff2; exact rfl; exact rfl; (simp only [push_cast, seval, hx, hz, hW, hlg, getF hF, getF0 hF, setF hF, setF0 hF, get7, set7, heg, lentR_len, hsg] <;> (try simp (disch := omega) only [wI, wU, wC]) <;> exact rfl); (focus ((try simp only [push_cast, seval, hx, hz, hW, hlg, getF hF, getF0 hF, setF hF, setF0 hF, get7, set7, heg, lentR_len, hsg]) <;> exact sT)); (try dsimp only [upd]))))); exact AbW.nil))
    repeat (first | apply Wp.seq | apply Wp.block | (apply Run.next; (simp only [push_cast, seval, hx, hz, hW, hlg, getF hF, getF0 hF, setF hF, setF0 hF, get7, set7, heg, lentR_len, hsg] <;> (try simp (disch := omega) only [wI, wU, wC]) <;> exact rfl); (focus ((try simp only [push_cast, seval, hx, hz, hW, hlg, getF hF, getF0 hF, setF hF, setF0 hF, get7, set7, heg, lentR_len, hsg]) <;> exact sT))) | ((first | apply Run.nil | apply Wp.skip); dsimp only [sQ, tQ, bQ]) | (apply Wp.run; (dsimp only [List.map] <;> exact rfl); exact rfl) | (apply Wp.exit; dsimp only [sQ, tQ, bQ]; simp only [reduceIte]))
    (apply leaveAN; exact rfl; (simp only [push_cast, seval, hx, hz, hW, hlg, getF hF, getF0 hF, setF hF, setF0 hF, get7, set7, heg, lentR_len, hsg] <;> (try simp (disch := omega) only [wI, wU, wC]) <;> exact rfl); (focus (first | (simp only [push_cast, seval, hx, hz, hW, hlg, getF hF, getF0 hF, setF hF, setF0 hF, get7, set7, heg, lentR_len, hsg]; done) | trivial | (simp only [push_cast, seval, hx, hz, hW, hlg, getF hF, getF0 hF, setF hF, setF0 hF, get7, set7, heg, lentR_len, hsg]; trivial) | (simp; done))); (try simp only [push_cast, seval, hx, hz, hW, hlg, getF hF, getF0 hF, setF hF, setF0 hF, get7, set7, heg, lentR_len, hsg]))
    have e := hrs (tv + 1) (tl ++ [loan])
    rw [List.length_append] at e
    simp [blk, benR, hW]
    exact e
  · intro h2
    simp at h2; omega
def backT (T : List (Nat × List Int)) (j : Nat) : List (Nat × List Int) := T.set j ((T.getD j (0, [])).1, (T.getD j (0, [])).2.dropLast)
theorem back_spec {F G : Mem} {N : Nat} (hF : F.length = N) {ks : List St} {ls : List Ln} {e0 e4 : Ent} {life : Int} {L I W : List Int} {vi : Nat} {T : List (Nat × List Int)} (loan item : Int) (hl : 0 ≤ loan ∧ loan < ls.length) (hi : 0 ≤ item ∧ item < T.length) (hW : W.length = T.length)
    (h20 : ls.length ≤ 20) (h8 : T.length ≤ 100) (hI : I.length ≤ 1000) (hu : 0 ≤ (ls.getD loan.toNat ln0).uses ∧ (ls.getD loan.toNat ln0).uses ≤ 100) (hw : 0 ≤ W.getD item.toNat 0 ∧ W.getD item.toNat 0 ≤ 10000) (hTl : 1 ≤ (T.getD item.toNat (0, [])).2.length ∧ (T.getD item.toNat (0, [])).2.length ≤ 1000) :
    Go.Vg.Spec Try.prog 84 [.optr (N + 3) 1 0 0, .int loan] (F ++ blk N ks ls e0 e4 life L vi (I ++ [item]) W T G) (fun _ m' => m' = F ++ blk N ks ls e0 e4 life L vi I (W.set item.toNat (W.getD item.toNat 0 - (ls.getD loan.toNat ln0).uses)) (backT T item.toNat) G) := by
  unfold backT
  generalize hx : ls.getD loan.toNat ln0 = x at hu
  generalize hz : W.getD item.toNat 0 = z at hw
  have hlg : ∀ d, (lentR N 7 T).getD item.toNat d = .osl (N + (7 + item.toNat)) (T.getD item.toNat (0, [])).1 0 (T.getD item.toNat (0, [])).2.length := fun d => lentR_getD d (by omega)
  have heg := lentE_get (T := T) (G := G) (j := item.toNat) (by omega)
  have hsg := fun v l => lentE_set (T := T) (G := G) (j := item.toNat) (by omega) v l
  have hrs := fun v l => lentR_set (N := N) (T := T) (k := 7) (j := item.toNat) (v := v) (l := l)
  generalize ht : T.getD item.toNat (0, []) = t at hTl hlg heg
  obtain ⟨tv, tl⟩ := t
  simp only at hTl hlg
  rw [lentE] at heg
  simp only at heg
  have hdl : tl.dropLast = tl.take (tl.length - 1) := List.dropLast_eq_take ..
  have hlast : (I ++ [item]).getD I.length 0 = item := by simp
  have htk : (I ++ [item]).take I.length = I := by simp
  have hJl : (I ++ [item]).length = I.length + 1 := by simp
  generalize I ++ [item] = J at hlast htk hJl
  (refine Spec.of_bodyA Try.func84 rfl (by rw [Try.ntmps84]; simp) ?_; rw [Try.results84, Try.ntmps84]; simp only [entry, zipArgs, Nat.reduceAdd])
  repeat (first | apply Wp.seq | apply Wp.block | (apply Run.next; (simp only [push_cast, seval, hx, hz, hW, hlg, getF hF, getF0 hF, setF hF, setF0 hF, get7, set7, heg, lentR_len, hsg, hlast, hJl, Int.add_sub_cancel, ← List.map_take, htk, Nat.sub_zero] <;> (try simp (disch := omega) only [wI, wU, wC]) <;> exact rfl); (focus ((try simp only [push_cast, seval, hx, hz, hW, hlg, getF hF, getF0 hF, setF hF, setF0 hF, get7, set7, heg, lentR_len, hsg, hlast, hJl, Int.add_sub_cancel, ← List.map_take, htk, Nat.sub_zero]) <;> exact sT))) | ((first | apply Run.nil | apply Wp.skip); dsimp only [sQ, tQ, bQ]) | (apply Wp.run; (dsimp only [List.map] <;> exact rfl); exact rfl) | (apply Wp.exit; dsimp only [sQ, tQ, bQ]; simp only [reduceIte]))
  (apply Wp.cond; (simp only [push_cast, seval, hx, hz, hW, hlg, getF hF, getF0 hF, setF hF, setF0 hF, get7, set7, heg, lentR_len, hsg, hlast, hJl, Int.add_sub_cancel, ← List.map_take, htk, Nat.sub_zero] <;> (try simp (disch := omega) only [wI, wU, wC]) <;> exact rfl))
  · (intro hc; try simp only [decide_eq_true_eq, decide_eq_false_iff_not, Bool.and_eq_true, Bool.or_eq_true, Bool.not_eq_true, Bool.not_eq_false, Bool.not_eq_true', Bool.not_eq_false', Bool.and_eq_false_iff, Bool.or_eq_false_iff, Int.not_lt, Int.not_le, Int.ofNat_lt, Int.ofNat_le] at hc)
    repeat (first | apply Wp.seq | apply Wp.block | (apply Run.next; (simp only [push_cast, seval, hx, hz, hW, hlg, getF hF, getF0 hF, setF hF, setF0 hF, get7, set7, heg, lentR_len, hsg, hlast, hJl, Int.add_sub_cancel, ← List.map_take, htk, Nat.sub_zero] <;> (try simp (disch := omega) only [wI, wU, wC]) <;> exact rfl); (focus ((try simp only [push_cast, seval, hx, hz, hW, hlg, getF hF, getF0 hF, setF hF, setF0 hF, get7, set7, heg, lentR_len, hsg, hlast, hJl, Int.add_sub_cancel, ← List.map_take, htk, Nat.sub_zero]) <;> exact sT))) | ((first | apply Run.nil | apply Wp.skip); dsimp only [sQ, tQ, bQ]) | (apply Wp.run; (dsimp only [List.map] <;> exact rfl); exact rfl) | (apply Wp.exit; dsimp only [sQ, tQ, bQ]; simp only [reduceIte]))
    (apply Wp.runE 18 18 mixed; (dsimp only [List.map] <;> exact rfl); exact rfl; kernel_rfl; ((repeat (apply Abe.next; exact rfl; (simp only [push_cast, seval, hx, hz, hW, hlg, getF hF, getF0 hF, setF hF, setF0 hF, get7, set7, heg, lentR_len, hsg, hlast, hJl, Int.add_sub_cancel, ← List.map_take, htk, Nat.sub_zero] <;> (try simp (disch := omega) only [wI, wU, wC]) <;> exact rfl); (focus ((try simp only [push_cast, seval, hx, hz, hW, hlg, getF hF, getF0 hF, setF hF, setF0 hF, get7, set7, heg, lentR_len, hsg, hlast, hJl, Int.add_sub_cancel, ← List.map_take, htk, Nat.sub_zero]) <;> exact sT)))); (apply Abe.eff; exact rfl; (simp only [push_cast, seval, hx, hz, hW, hlg, getF hF, getF0 hF, setF hF, setF0 hF, get7, set7, heg, lentR_len, hsg, hlast, hJl, Int.add_sub_cancel, ← List.map_take, htk, Nat.sub_zero] <;> (try simp (disch := omega) only [wI, wU, wC]) <;> exact rfl); (focus ((try simp only [push_cast, seval, hx, hz, hW, hlg, getF hF, getF0 hF, setF hF, setF0 hF, get7, set7, heg, lentR_len, hsg, hlast, hJl, Int.add_sub_cancel, ← List.map_take, htk, Nat.sub_zero]) <;> exact sT)); (try dsimp only [putA])); (repeat (apply Abe.next; exact rfl; (simp only [push_cast, seval, hx, hz, hW, hlg, getF hF, getF0 hF, setF hF, setF0 hF, get7, set7, heg, lentR_len, hsg, hlast, hJl, Int.add_sub_cancel, ← List.map_take, htk, Nat.sub_zero] <;> (try simp (disch := omega) only [wI, wU, wC]) <;> exact rfl); (focus ((try simp only [push_cast, seval, hx, hz, hW, hlg, getF hF, getF0 hF, setF hF, setF0 hF, get7, set7, heg, lentR_len, hsg, hlast, hJl, Int.add_sub_cancel, ← List.map_take, htk, Nat.sub_zero]) <;> exact sT)))); exact Abe.nil))
    repeat (first | apply Wp.seq | apply Wp.block | (apply Run.next; (simp only [push_cast, seval, hx, hz, hW, hlg, getF hF, getF0 hF, setF hF, setF0 hF, get7, set7, heg, lentR_len, hsg, hlast, hJl, Int.add_sub_cancel, ← List.map_take, htk, Nat.sub_zero] <;> (try simp (disch := omega) only [wI, wU, wC]) <;> exact rfl); (focus ((try simp only [push_cast, seval, hx, hz, hW, hlg, getF hF, getF0 hF, setF hF, setF0 hF, get7, set7, heg, lentR_len, hsg, hlast, hJl, Int.add_sub_cancel, ← List.map_take, htk, Nat.sub_zero]) <;> exact sT))) | ((first | apply Run.nil | apply Wp.skip); dsimp only [sQ, tQ, bQ]) | (apply Wp.run; (dsimp only [List.map] <;> exact rfl); exact rfl) | (apply Wp.exit; dsimp only [sQ, tQ, bQ]; simp only [reduceIte]))
    (apply Wp.runE 23 23 mixed; (dsimp only [List.map] <;> exact rfl); exact rfl; kernel_rfl; ((repeat (apply Abe.next; exact rfl; (simp only [push_cast, seval, hx, hz, hW, hlg, getF hF, getF0 hF, setF hF, setF0 hF, get7, set7, heg, lentR_len, hsg, hlast, hJl, Int.add_sub_cancel, ← List.map_take, htk, Nat.sub_zero] <;> (try simp (disch := omega) only [wI, wU, wC]) <;> exact rfl); (focus ((try simp only [push_cast, seval, hx, hz, hW, hlg, getF hF, getF0 hF, setF hF, setF0 hF, get7, set7, heg, lentR_len, hsg, hlast, hJl, Int.add_sub_cancel, ← List.map_take, htk, Nat.sub_zero]) <;> exact sT)))); (apply Abe.eff; exact rfl; (simp only [push_cast, seval, hx, hz, hW, hlg, getF hF, getF0 hF, setF hF, setF0 hF, get7, set7, heg, lentR_len, hsg, hlast, hJl, Int.add_sub_cancel, ← List.map_take, htk, Nat.sub_zero] <;> (try simp (disch := omega) only [wI, wU, wC]) <;> exact rfl); (focus ((try simp only [push_cast, seval, hx, hz, hW, hlg, getF hF, getF0 hF, setF hF, setF0 hF, get7, set7, heg, lentR_len, hsg, hlast, hJl, Int.add_sub_cancel, ← List.map_take, htk, Nat.sub_zero]) <;> exact sT)); (try dsimp only [putA])); (repeat (apply Abe.next; exact rfl; (simp only [push_cast, seval, hx, hz, hW, hlg, getF hF, getF0 hF, setF hF, setF0 hF, get7, set7, heg, lentR_len, hsg, hlast, hJl, Int.add_sub_cancel, ← List.map_take, htk, Nat.sub_zero] <;> (try simp (disch := omega) only [wI, wU, wC]) <;> exact rfl); (focus ((try simp only [push_cast, seval, hx, hz, hW, hlg, getF hF, getF0 hF, setF hF, setF0 hF, get7, set7, heg, lentR_len, hsg, hlast, hJl, Int.add_sub_cancel, ← List.map_take, htk, Nat.sub_zero]) <;> exact sT)))); exact Abe.nil))
    (apply Wp.trim (N + (7 + item.toNat)) ( tl.length - 1); (simp only [push_cast, seval, hx, hz, hW, hlg, getF hF, getF0 hF, setF hF, setF0 hF, get7, set7, heg, lentR_len, hsg, hlast, hJl, Int.add_sub_cancel, ← List.map_take, htk, Nat.sub_zero] <;> (try simp (disch := omega) only [wI, wU, wC]) <;> exact rfl); (try simp only [push_cast, seval, hx, hz, hW, hlg, getF hF, getF0 hF, setF hF, setF0 hF, get7, set7, heg, lentR_len, hsg, hlast, hJl, Int.add_sub_cancel, ← List.map_take, htk, Nat.sub_zero]))
    repeat (first | apply Wp.seq | apply Wp.block | (apply Wp.skip; dsimp only [sQ, tQ, bQ]))
    (apply Wp.run; (dsimp only [List.map] <;> exact rfl); exact rfl)
    iterate 7 (apply Run.next; (simp only [push_cast, seval, hx, hz, hW, hlg, getF hF, getF0 hF, setF hF, setF0 hF, get7, set7, heg, lentR_len, hsg, hlast, hJl, Int.add_sub_cancel, ← List.map_take, htk, Nat.sub_zero] <;> (try simp (disch := omega) only [wI, wU, wC]) <;> exact rfl); (focus ((try simp only [push_cast, seval, hx, hz, hW, hlg, getF hF, getF0 hF, setF hF, setF0 hF, get7, set7, heg, lentR_len, hsg, hlast, hJl, Int.add_sub_cancel, ← List.map_take, htk, Nat.sub_zero]) <;> exact sT)))
    (apply Run.trim (N + 6) ( I.length); (simp only [push_cast, seval, hx, hz, hW, hlg, getF hF, getF0 hF, setF hF, setF0 hF, get7, set7, heg, lentR_len, hsg, hlast, hJl, Int.add_sub_cancel, ← List.map_take, htk, Nat.sub_zero] <;> (try simp (disch := omega) only [wI, wU, wC]) <;> exact rfl); (simp only [push_cast, seval, hx, hz, hW, hlg, getF hF, getF0 hF, setF hF, setF0 hF, get7, set7, heg, lentR_len, hsg, hlast, hJl, Int.add_sub_cancel, ← List.map_take, htk, Nat.sub_zero] <;> (try simp (disch := omega) only [wI, wU, wC]) <;> exact rfl); (try simp only [push_cast, seval, hx, hz, hW, hlg, getF hF, getF0 hF, setF hF, setF0 hF, get7, set7, heg, lentR_len, hsg, hlast, hJl, Int.add_sub_cancel, ← List.map_take, htk, Nat.sub_zero]))
    iterate 3 (apply Run.next; (simp only [push_cast, seval, hx, hz, hW, hlg, getF hF, getF0 hF, setF hF, setF0 hF, get7, set7, heg, lentR_len, hsg, hlast, hJl, Int.add_sub_cancel, ← List.map_take, htk, Nat.sub_zero] <;> (try simp (disch := omega) only [wI, wU, wC]) <;> exact rfl); (focus ((try simp only [push_cast, seval, hx, hz, hW, hlg, getF hF, getF0 hF, setF hF, setF0 hF, get7, set7, heg, lentR_len, hsg, hlast, hJl, Int.add_sub_cancel, ← List.map_take, htk, Nat.sub_zero]) <;> exact sT)))
    apply Run.nil
    (apply leaveAN; exact rfl; (simp only [push_cast, seval, hx, hz, hW, hlg, getF hF, getF0 hF, setF hF, setF0 hF, get7, set7, heg, lentR_len, hsg, hlast, hJl, Int.add_sub_cancel, ← List.map_take, htk, Nat.sub_zero] <;> (try simp (disch := omega) only [wI, wU, wC]) <;> exact rfl); (focus (first | (simp only [push_cast, seval, hx, hz, hW, hlg, getF hF, getF0 hF, setF hF, setF0 hF, get7, set7, heg, lentR_len, hsg, hlast, hJl, Int.add_sub_cancel, ← List.map_take, htk, Nat.sub_zero]; done) | trivial | (simp only [push_cast, seval, hx, hz, hW, hlg, getF hF, getF0 hF, setF hF, setF0 hF, get7, set7, heg, lentR_len, hsg, hlast, hJl, Int.add_sub_cancel, ← List.map_take, htk, Nat.sub_zero]; trivial) | (simp; done))); (try simp only [push_cast, seval, hx, hz, hW, hlg, getF hF, getF0 hF, setF hF, setF0 hF, get7, set7, heg, lentR_len, hsg, hlast, hJl, Int.add_sub_cancel, ← List.map_take, htk, Nat.sub_zero]))
    have e := hrs tv tl.dropLast
    rw [List.length_dropLast] at e
    simp [blk, benR, hW, htk, hdl] at e ⊢
    exact e
  · intro h2
    simp at h2; omega
end Go.Proofs.Try
set_option maxHeartbeats 8000000
namespace Go.Proofs.Try
open Go.Vg

/-! a bench, read as frozen -/
theorem VwL.selfs {m : Mem} : ∀ {xs : List AV}, okL 0 xs → VwL m xs xs
  | [], _ => .nil
  | x :: xs, h => .cons (.self h.1) (VwL.selfs h.2)
theorem Vw.oints {m : Mem} {id ver : Nat} {l : List Int} (n : Nat) (hn : n = l.length) (hm : m[id]? = some ⟨ver, .row 1 (l.map AV.int)⟩) : Vw m (.osl id ver 0 n) (.ints l) := by
  subst hn
  refine .osl hm (by simp) (by omega) ?_
  have e : ((l.map AV.int).drop 0).take l.length = l.map AV.int := by simp [List.take_of_length_le]
  rw [e]
  exact VwL.selfs (by simp only [push_cast])
theorem VwL.lent {m : Mem} {N : Nat} : ∀ {T : List (Nat × List Int)} {k : Nat}, (∀ j, j < T.length → m[N + (k + j)]? = some (lentE (T.getD j (0, [])))) → VwL m (lentR N k T) ((T.map (·.2)).map AV.ints)
  | [], _, _ => .nil
  | t :: T, k, h => by
    refine .cons (Vw.oints _ rfl (by have := h 0 (by simp); simpa [lentE] using this)) (VwL.lent (k := k + 1) fun j hj => ?_)
    have := h (j + 1) (by simpa using hj)
    rw [show k + 1 + j = k + (j + 1) by omega, this]
    simp
theorem blk_vw {F G : Mem} {N : Nat} (hF : F.length = N) {ks : List St} {ls : List Ln} {e0 e4 : Ent} {life : Int} {L I W : List Int} {vi : Nat} {T : List (Nat × List Int)} :
    Vw (F ++ blk N ks ls e0 e4 life L vi I W T G) (.optr (N + 3) 1 0 0) (.ref (benF ks ls life L I W (T.map (·.2))) 0) := by
  refine .optr (sz := 7) (l := [benR N ks ls life L vi I W T]) (x := benR N ks ls life L vi I W T) (by rw [getF hF]; rfl) rfl (by simp [AV.cells]) ?_
  refine .cons (.self (by simp only [push_cast])) (.cons (.self (by simp only [push_cast])) (.cons (.self trivial) (.cons (Vw.oints _ rfl (by rw [getF hF]; rfl)) (.cons (Vw.oints _ rfl (by rw [getF hF]; rfl)) (.cons (Vw.oints _ rfl (by rw [getF hF]; rfl)) (.cons ?_ .nil))))))
  refine .osl (sz := 1) (l := lentR N 7 T) (by rw [getF hF]; rfl) (by rw [lentR_len]; omega) (by omega) ?_
  have e : ((lentR N 7 T).drop 0).take T.length = lentR N 7 T := by simp [List.take_of_length_le, lentR_len]
  rw [e]
  refine VwL.lent fun j hj => ?_
  rw [getF hF, get7, lentE_get hj]
end Go.Proofs.Try
set_option maxHeartbeats 8000000
namespace Go.Proofs.Try

/-! a search, number by number, in order -/
/-- right from n on -/
def RtF (c : Nat → Nat) (ok : List Int → Bool) (n : Nat) (J : List Int) : Prop := ∀ k, n ≤ k → k < J.length → ∃ j : Nat, j < c k ∧ J.getD k 0 = (j : Int) ∧ ok (J.take (k + 1)) = true
def LxT (J J' : List Int) : Prop := ∃ i, i < J.length ∧ J.take i = J'.take i ∧ J.getD i 0 < J'.getD i 0
theorem take_succ_getD {J : List Int} {n : Nat} (h : n < J.length) : J.take (n + 1) = J.take n ++ [J.getD n 0] := by
  rw [List.take_add_one]; simp [h]
/-- an extension, right from the end of the beginning on -/
def Ext (c : Nat → Nat) (ok : List Int → Bool) (r : Nat) (I J : List Int) : Prop := J.length = I.length + r ∧ J.take I.length = I ∧ RtF c ok I.length J
theorem ext_step {c : Nat → Nat} {ok : List Int → Bool} {r : Nat} {I J : List Int} : Ext c ok (r + 1) I J ↔ ∃ j : Nat, j < c I.length ∧ ok (I ++ [(j : Int)]) = true ∧ Ext c ok r (I ++ [(j : Int)]) J := by
  constructor
  · rintro ⟨h1, h2, h3⟩
    obtain ⟨j, h4, h5, h6⟩ := h3 I.length (Nat.le_refl _) (by omega)
    have e := take_succ_getD (J := J) (n := I.length) (by omega)
    rw [h2, h5] at e
    refine ⟨j, h4, by rw [← e]; exact h6, by simp; omega, by rw [List.length_append]; exact e, fun k h7 h8 => h3 k (by simp at h7; omega) h8⟩
  · rintro ⟨j, h4, h5, h1, h2, h3⟩
    rw [List.length_append] at h2 h1 h3
    simp only [List.length_cons, List.length_nil, Nat.zero_add] at h1 h2 h3
    have e := take_succ_getD (J := J) (n := I.length) (by omega)
    rw [h2] at e
    have e1 := List.append_inj e (by simp; omega)
    refine ⟨by omega, e1.1.symm, fun k h7 h8 => ?_⟩
    by_cases hk : k = I.length
    · subst hk
      have e2 := e1.2
      injection e2 with e2
      exact ⟨j, h4, e2.symm, by rw [h2]; exact h5⟩
    · exact h3 k (by omega) h8
theorem LxT.asymm {J J' : List Int} (hl : J.length = J'.length) (h : LxT J J') (h' : LxT J' J) : False := by
  obtain ⟨i, h1, h2, h3⟩ := h
  obtain ⟨k, h4, h5, h6⟩ := h'
  have hg : ∀ {A B : List Int} {n m : Nat}, A.take n = B.take n → m < n → A.getD m 0 = B.getD m 0 := by
    intro A B n m e hm
    have := congrArg (fun l => l.getD m 0) e
    simpa [List.getD_eq_getElem?_getD, List.getElem?_take, hm] using this
  rcases Nat.lt_trichotomy i k with h | h | h
  · have := hg h5 h; omega
  · subst h; omega
  · have := hg h2 h; omega
/-! all of them, in order -/
def plF (f : Nat → List (List Int)) : Nat → Nat → List (List Int)
  | 0, _ => []
  | d + 1, j => f j ++ plF f d (j + 1)
def plL (c : Nat → Nat) (ok : List Int → Bool) : Nat → List Int → List (List Int)
  | 0, I => [I]
  | r + 1, I => plF (fun j => if ok (I ++ [(j : Int)]) = true then plL c ok r (I ++ [(j : Int)]) else []) (c I.length) 0
theorem plF_mem {f : Nat → List (List Int)} {x : List Int} : ∀ {d j : Nat}, x ∈ plF f d j ↔ ∃ i, j ≤ i ∧ i < j + d ∧ x ∈ f i
  | 0, j => by simp only [plF, List.not_mem_nil, false_iff]; rintro ⟨i, h1, h2, _⟩; omega
  | d + 1, j => by
    simp only [plF, List.mem_append, plF_mem]
    constructor
    · rintro (h | ⟨i, h1, h2, h3⟩)
      · exact ⟨j, by omega, by omega, h⟩
      · exact ⟨i, by omega, by omega, h3⟩
    · rintro ⟨i, h1, h2, h3⟩
      by_cases hij : i = j
      · subst hij; exact .inl h3
      · exact .inr ⟨i, by omega, by omega, h3⟩
theorem plL_mem {c : Nat → Nat} {ok : List Int → Bool} {J : List Int} : ∀ {r : Nat} {I : List Int}, J ∈ plL c ok r I ↔ Ext c ok r I J
  | 0, I => by
    simp only [plL, List.mem_singleton]
    constructor
    · rintro rfl; exact ⟨rfl, by simp, fun k h1 h2 => by omega⟩
    · intro h
      have := h.2.1
      rw [List.take_of_length_le (by have := h.1; omega)] at this
      exact this
  | r + 1, I => by
    simp only [plL]
    rw [plF_mem, ext_step]
    constructor
    · rintro ⟨j, h1, h2, h3⟩
      split at h3
      · rename_i hok; exact ⟨j, by omega, hok, plL_mem.1 h3⟩
      · cases h3
    · rintro ⟨j, h1, h2, h3⟩
      exact ⟨j, by omega, by omega, by rw [if_pos h2]; exact plL_mem.2 h3⟩
/-! numbers that are alike -/
end Go.Proofs.Try
set_option maxHeartbeats 8000000
namespace Go.Proofs.Try

/-! the items of one kind -/
def sW (u : Nat → Int) (I : List Int) (x : Int) : Nat → Int
  | 0 => 0
  | i + 1 => if I.getD i 0 = x then sW u I x i + u i else sW u I x i
def lnI (I : List Int) (x : Int) (n : Nat) : List Nat := (List.range n).filter fun i => decide (I.getD i 0 = x)
theorem lnI_succ (I : List Int) (x : Int) (n : Nat) : lnI I x (n + 1) = if I.getD n 0 = x then lnI I x n ++ [n] else lnI I x n := by
  unfold lnI; rw [List.range_succ, List.filter_append]
  by_cases h : I.getD n 0 = x
  · rw [if_pos h, List.filter_cons, if_pos (decide_eq_true h)]; rfl
  · rw [if_neg h, List.filter_cons, if_neg (by rw [decide_eq_false h]; simp)]; simp
theorem getD_left {I J : List Int} {i : Nat} (h : i < I.length) : (I ++ J).getD i 0 = I.getD i 0 := by
  simp only [List.getD_eq_getElem?_getD]; rw [List.getElem?_append_left h]
theorem getD_last (I : List Int) (x : Int) : (I ++ [x]).getD I.length 0 = x := by simp
theorem sW_left (u : Nat → Int) (I J : List Int) (x : Int) : ∀ {n : Nat}, n ≤ I.length → sW u (I ++ J) x n = sW u I x n
  | 0, _ => rfl
  | n + 1, h => by simp only [sW]; rw [getD_left (by omega), sW_left u I J x (by omega)]
theorem lnI_left (I J : List Int) (x : Int) : ∀ {n : Nat}, n ≤ I.length → lnI (I ++ J) x n = lnI I x n
  | 0, _ => rfl
  | n + 1, h => by rw [lnI_succ, lnI_succ, getD_left (by omega), lnI_left I J x (by omega)]
theorem sW_bd {u : Nat → Int} (hu : ∀ i, 0 ≤ u i ∧ u i ≤ 100) (I : List Int) (x : Int) : ∀ n : Nat, 0 ≤ sW u I x n ∧ sW u I x n ≤ 100 * (n : Int)
  | 0 => by simp [sW]
  | n + 1 => by
    have ih := sW_bd hu I x n
    have := hu n
    simp only [sW]; split <;> omega
/-- the last loan is lent rightly -/
def okU (u : Nat → Int) (o : Nat → Nat → Bool) (life : Int) (I : List Int) : Bool :=
  decide (sW u I (I.getD (I.length - 1) 0) (I.length - 1) + u (I.length - 1) ≤ life) && !(lnI I (I.getD (I.length - 1) 0) (I.length - 1)).any fun i => o i (I.length - 1)
theorem okU_snoc (u : Nat → Int) (o : Nat → Nat → Bool) (life : Int) (I : List Int) (x : Int) : okU u o life (I ++ [x]) = (decide (sW u I x I.length + u I.length ≤ life) && !(lnI I x I.length).any fun i => o i I.length) := by
  unfold okU
  rw [show (I ++ [x]).length - 1 = I.length by simp, getD_last, sW_left u I [x] x (Nat.le_refl _), lnI_left I [x] x (Nat.le_refl _)]
def sumN (u : Nat → Int) : Nat → Int
  | 0 => 0
  | k + 1 => sumN u k + u k
theorem sum_add (f g : Nat → Int) : ∀ n, sumN (fun x => f x + g x) n = sumN f n + sumN g n
  | 0 => rfl
  | n + 1 => by simp only [sumN, sum_add f g n]; omega
theorem sum_one (v : Int) (j : Nat) : ∀ n, sumN (fun x => if x = j then v else 0) n = if j < n then v else 0
  | 0 => rfl
  | n + 1 => by
    simp only [sumN, sum_one v j n]
    by_cases h : n = j
    · subst h; simp
    · by_cases h2 : j < n
      · rw [if_pos h2, if_neg h, if_pos (by omega)]; omega
      · rw [if_neg h2, if_neg h, if_neg (by omega)]; rfl
end Go.Proofs.Try
set_option maxHeartbeats 8000000
namespace Go.Proofs.Try
open Go.Vg

/-! a bench as the items of its first loans tell it -/
def uL (ls : List Ln) (L : List Int) (i : Nat) : Int := (ls.getD (L.getD i 0).toNat ln0).uses
def oL (ls : List Ln) (L : List Int) (i k : Nat) : Bool := ovB (ls.getD (L.getD i 0).toNat ln0) (ls.getD (L.getD k 0).toNat ln0)
def okK (ls : List Ln) (life : Int) (L : List Int) : List Int → Bool := okU (uL ls L) (oL ls L) life
def wO (ls : List Ln) (L : List Int) (n : Nat) (I : List Int) : List Int := (List.range n).map fun j : Nat => sW (uL ls L) I (j : Int) I.length
def tO (L : List Int) (n : Nat) (I : List Int) : List (List Int) := (List.range n).map fun j : Nat => (lnI I (j : Int) I.length).map fun i => L.getD i 0
theorem wO_len (ls : List Ln) (L : List Int) (n : Nat) (I : List Int) : (wO ls L n I).length = n := by simp [wO]
theorem tO_len (L : List Int) (n : Nat) (I : List Int) : (tO L n I).length = n := by simp [tO]
theorem wO_get (ls : List Ln) (L : List Int) {n j : Nat} (I : List Int) (h : j < n) : (wO ls L n I).getD j 0 = sW (uL ls L) I (j : Int) I.length := by simp [wO, h]
theorem tO_get (L : List Int) {n j : Nat} (I : List Int) (h : j < n) : (tO L n I).getD j [] = (lnI I (j : Int) I.length).map fun i => L.getD i 0 := by simp [tO, h]
theorem wO_snoc (ls : List Ln) (L : List Int) {n j : Nat} (I : List Int) (h : j < n) : wO ls L n (I ++ [(j : Int)]) = (wO ls L n I).set j ((wO ls L n I).getD j 0 + uL ls L I.length) := by
  apply List.ext_getElem (by simp [wO])
  intro k h1 h2
  have hk : k < n := by simpa [wO] using h1
  rw [List.getElem_set]
  have e : (wO ls L n (I ++ [(j : Int)]))[k] = if (j : Int) = (k : Int) then sW (uL ls L) I (k : Int) I.length + uL ls L I.length else sW (uL ls L) I (k : Int) I.length := by
    simp only [wO, List.getElem_map, List.getElem_range, List.length_append, List.length_cons, List.length_nil, Nat.zero_add, sW]
    rw [getD_last, sW_left _ _ _ _ (Nat.le_refl _)]
  rw [e]
  by_cases hkj : j = k
  · subst hkj; rw [if_pos rfl, if_pos rfl, wO_get ls L I h]
  · rw [if_neg (by omega), if_neg hkj]; simp [wO]
theorem tO_snoc (L : List Int) {n j : Nat} (I : List Int) (h : j < n) : tO L n (I ++ [(j : Int)]) = (tO L n I).set j ((tO L n I).getD j [] ++ [L.getD I.length 0]) := by
  apply List.ext_getElem (by simp [tO])
  intro k h1 h2
  have hk : k < n := by simpa [tO] using h1
  rw [List.getElem_set]
  have e : (tO L n (I ++ [(j : Int)]))[k] = (if (j : Int) = (k : Int) then lnI I (k : Int) I.length ++ [I.length] else lnI I (k : Int) I.length).map fun i => L.getD i 0 := by
    simp only [tO, List.getElem_map, List.getElem_range, List.length_append, List.length_cons, List.length_nil, Nat.zero_add]
    rw [lnI_succ, getD_last, lnI_left _ _ _ (Nat.le_refl _)]
  rw [e]
  by_cases hkj : j = k
  · subst hkj; rw [if_pos rfl, if_pos rfl, tO_get L I h]; simp
  · rw [if_neg (by omega), if_neg hkj]; simp [tO]
theorem fit_ok (ls : List Ln) (life : Int) (L : List Int) {n j : Nat} (I : List Int) (h : j < n) : fitB ls life (wO ls L n I) (tO L n I) (L.getD I.length 0).toNat j = okK ls life L (I ++ [(j : Int)]) := by
  unfold fitB okK
  rw [okU_snoc, wO_get ls L I h, tO_get L I h, List.any_map]
  rfl
theorem wO_nil (ls : List Ln) (L : List Int) (n : Nat) : wO ls L n [] = List.replicate n 0 := by
  apply List.ext_getElem (by simp [wO])
  intro k h1 h2
  simp [wO, sW]
theorem tO_nil (L : List Int) (n : Nat) : (T0 n).map (·.2) = tO L n [] := by
  apply List.ext_getElem (by simp [tO, T0])
  intro k h1 h2
  simp [tO, T0, lnI]
theorem wO_back (ls : List Ln) (L : List Int) {n j : Nat} (I : List Int) (h : j < n) : (wO ls L n (I ++ [(j : Int)])).set j ((wO ls L n (I ++ [(j : Int)])).getD j 0 - uL ls L I.length) = wO ls L n I := by
  rw [wO_snoc ls L I h]
  have hl := wO_len ls L n I
  generalize wO ls L n I = W at hl
  subst hl
  apply List.ext_getElem (by simp)
  intro k h1 h2
  rw [List.getElem_set]
  by_cases hkj : j = k
  · subst hkj; simp [h]
  · rw [if_neg hkj, List.getElem_set, if_neg hkj]
theorem tO_back (L : List Int) {n j : Nat} (I : List Int) (h : j < n) : (tO L n (I ++ [(j : Int)])).set j ((tO L n (I ++ [(j : Int)])).getD j []).dropLast = tO L n I := by
  rw [tO_snoc L I h]
  have hl := tO_len L n I
  generalize tO L n I = W at hl
  subst hl
  apply List.ext_getElem (by simp)
  intro k h1 h2
  rw [List.getElem_set]
  by_cases hkj : j = k
  · subst hkj; simp [h]
  · rw [if_neg hkj, List.getElem_set, if_neg hkj]
theorem lent_mem {L : List Int} {n j : Nat} {I : List Int} (h : j < n) : ((tO L n I).getD j []).length = 0 ↔ (j : Int) ∉ I := by
  rw [tO_get L I h, List.length_map, List.length_eq_zero_iff]
  unfold lnI
  rw [List.filter_eq_nil_iff]
  constructor
  · intro hx hm
    obtain ⟨i, hi, he⟩ := List.mem_iff_getElem.1 hm
    exact hx i (List.mem_range.2 hi) (decide_eq_true (by simp [hi, he]))
  · intro hx i hi he
    rw [List.mem_range] at hi
    apply hx
    rw [← of_decide_eq_true he]
    simp [hi]
end Go.Proofs.Try
set_option maxHeartbeats 8000000
namespace Go.Proofs.Try
open Go.Vg

/-! the search for the first items -/
theorem tO_bd {ls : List Ln} {L : List Int} (hL : ∀ x ∈ L, 0 ≤ x ∧ x < (ls.length : Int)) {n j : Nat} {I : List Int} (hj : j < n) (hI : I.length ≤ L.length) : ∀ x ∈ (tO L n I).getD j [], 0 ≤ x ∧ x < (ls.length : Int) := by
  intro x hx
  rw [tO_get L I hj, List.mem_map] at hx
  obtain ⟨i, hi, rfl⟩ := hx
  unfold lnI at hi
  rw [List.mem_filter, List.mem_range] at hi
  refine hL _ ?_
  have : i < L.length := by omega
  simp [this]
theorem tO_le (L : List Int) {n j : Nat} (I : List Int) (hj : j < n) : ((tO L n I).getD j []).length ≤ I.length := by
  rw [tO_get L I hj, List.length_map]
  unfold lnI
  refine Nat.le_trans (List.length_filter_le _ _) ?_
  simp
theorem T_snd {T : List (Nat × List Int)} {X : List (List Int)} (h : T.map (·.2) = X) (j : Nat) : (T.getD j (0, [])).2 = X.getD j [] := by
  subst h
  rcases Nat.lt_or_ge j T.length with h | h
  · simp [List.getD_eq_getElem?_getD, h]
  · simp [List.getD_eq_getElem?_getD, h]
theorem lentT_snd {T : List (Nat × List Int)} {L : List Int} {n j : Nat} {I : List Int} (h : T.map (·.2) = tO L n I) (hj : j < n) : (lentT T j (L.getD I.length 0)).map (·.2) = tO L n (I ++ [(j : Int)]) := by
  rw [tO_snoc L I hj, lentT, List.map_set, h, T_snd h]
theorem backT_snd {T : List (Nat × List Int)} {L : List Int} {n j : Nat} {I : List Int} (h : T.map (·.2) = tO L n (I ++ [(j : Int)])) (hj : j < n) : (backT T j).map (·.2) = tO L n I := by
  rw [← tO_back L I hj, backT, List.map_set, h, T_snd h]
end Go.Proofs.Try
set_option maxHeartbeats 8000000
namespace Go.Proofs.Try
open Go.Vg
end Go.Proofs.Try
set_option maxHeartbeats 8000000
namespace Go.Proofs.Try
open Go.Vg

structure PV (ks : List St) (ls : List Ln) (plan : List Int) : Prop where
  sv : SV ks ls
  len : plan.length = ls.length
  pl : ∀ i, i < ls.length → -1 ≤ plan.getD i 0 ∧ plan.getD i 0 ≤ (ks.getD (ls.getD i ln0).kind.toNat st0).items - 1
theorem chk2E_pv {ks : List St} {ls : List Ln} {plan : List Int} (h : chk2E ks ls plan = 0) : PV ks ls plan := by
  obtain ⟨h1, h2, h3⟩ := chk2E_zero h
  exact ⟨h1, h2, fun i hi => wi_iff.1 (h3 i hi)⟩
end Go.Proofs.Try
set_option maxHeartbeats 8000000
namespace Go.Proofs.Try
open Go.Vg

def prA (p : Int × Int) : AV := .agg [.int p.1, .int p.2]
theorem app_pr (l : List (Int × Int)) (a b : Int) : l.map prA ++ [.agg [.val (.int .i64 a), .val (.int .i64 b)]] = (l ++ [(a, b)]).map prA := by simp [prA]
theorem okL_pr (k : Nat) (l : List (Int × Int)) : okL k (l.map prA) = True := eq_true (okL_map' k l fun x => by simp [prA, AV.ok, okL])
attribute [push_cast] app_pr okL_pr
end Go.Proofs.Try
set_option maxHeartbeats 8000000
namespace Go.Proofs.Try
open Go.Vg

/-! the pairs that overlap -/
theorem chkE_ok {ks : List St} {ls : List Ln} (h : chkE ks ls = 0) : SV ks ls := by
  unfold chkE at h
  split at h
  · exact checkB_ok ‹_›
  · cases h
end Go.Proofs.Try
set_option maxHeartbeats 8000000
namespace Go.Proofs.Try
open Go.Vg

/-! the most loans at the same time -/
end Go.Proofs.Try
set_option maxHeartbeats 8000000
namespace Go.Proofs.Try
open Go.Vg

/-! what is wrong with the last loan of the beginning of a plan -/
def mateB (ls : List Ln) (p : List Int) (i k : Nat) : Bool := decide ((ls.getD k ln0).kind = (ls.getD i ln0).kind) && decide (p.getD k 0 = p.getD i 0)
def sumU (ls : List Ln) (p : List Int) (i : Nat) : Nat → Int
  | 0 => 0
  | k + 1 => if mateB ls p i k = true then sumU ls p i k + (ls.getD k ln0).uses else sumU ls p i k
def clashB (ls : List Ln) (p : List Int) (i : Nat) : Nat → Bool
  | 0 => false
  | k + 1 => clashB ls p i k || (mateB ls p i k && ovB (ls.getD k ln0) (ls.getD i ln0))
def wrongB (ks : List St) (ls : List Ln) (p : List Int) (i : Nat) : Bool :=
  decide (p.getD i 0 < 0) || (clashB ls p i i || decide ((ks.getD (ls.getD i ln0).kind.toNat st0).life < (ls.getD i ln0).uses + sumU ls p i i))
theorem getD_take {l : List Int} {n k : Nat} (h : k < n) : (l.take n).getD k 0 = l.getD k 0 := by
  simp only [List.getD_eq_getElem?_getD, List.getElem?_take]
  rw [if_pos h]
theorem sumU_take (ls : List Ln) (p : List Int) (i : Nat) : ∀ k, k ≤ i → sumU ls (p.take (i + 1)) i k = sumU ls p i k
  | 0, _ => rfl
  | k + 1, h => by
    simp only [sumU, mateB, getD_take (show k < i + 1 by omega), getD_take (show i < i + 1 by omega), sumU_take ls p i k (by omega)]
    rfl
theorem clashB_take (ls : List Ln) (p : List Int) (i : Nat) : ∀ k, k ≤ i → clashB ls (p.take (i + 1)) i k = clashB ls p i k
  | 0, _ => rfl
  | k + 1, h => by
    simp only [clashB, mateB, getD_take (show k < i + 1 by omega), getD_take (show i < i + 1 by omega), clashB_take ls p i k (by omega)]
theorem wrongB_take (ks : List St) (ls : List Ln) (p : List Int) (i : Nat) : wrongB ks ls (p.take (i + 1)) i = wrongB ks ls p i := by
  unfold wrongB
  rw [sumU_take _ _ _ _ (Nat.le_refl _), clashB_take _ _ _ _ (Nat.le_refl _), getD_take (show i < i + 1 by omega)]
/-- the first wrong loan from i on -/
def cpFrom (ks : List St) (ls : List Ln) (p : List Int) (n : Nat) : Nat → Int × Int
  | 0 => (0, 0)
  | k + 1 => if wrongB ks ls p (n - (k + 1)) = true then (((n - (k + 1) : Nat) : Int), 101) else cpFrom ks ls p n k
def cpAns (ks : List St) (ls : List Ln) (p : List Int) : Int × Int := if chk2E ks ls p = 0 then cpFrom ks ls p p.length p.length else (0, chk2E ks ls p)
end Go.Proofs.Try
set_option maxHeartbeats 8000000
namespace Go.Proofs.Try
open Go.Vg

/-! several benches in memory -/
mutual
theorem shift_ok (M : Nat) : ∀ (x : AV), x.ok 0 → x.shift M = x
  | .val _, _ => rfl
  | .any, _ => rfl
  | .lst _ l, h => by simp only [AV.shift, shiftL_ok M l h]
  | .osl id _ _ _, h => absurd h (Nat.not_lt_zero id)
  | .emp, _ => rfl
  | .ref xs _, h => by simp only [AV.shift, shiftL_ok M xs h]
  | .optr id _ _ _, h => absurd h (Nat.not_lt_zero id)
  | .agg xs, h => by simp only [AV.shift, shiftL_ok M xs h]
  | .tup xs, h => by simp only [AV.shift, shiftL_ok M xs h]
  | .clo _ xs, h => by simp only [AV.shift, shiftL_ok M xs h]
  | .bnd _ xs, h => by simp only [AV.shift, shiftL_ok M xs h]
  | .opt _ x, h => by simp only [AV.shift, shift_ok M x h]
  | .yld id _, h => absurd h (Nat.not_lt_zero id)
theorem shiftL_ok (M : Nat) : ∀ (l : List AV), okL 0 l → shiftL M l = l
  | [], _ => rfl
  | x :: l, h => by simp only [shiftL, shift_ok M x h.1, shiftL_ok M l h.2]
end
theorem shiftL_lentR (M : Nat) : ∀ (T : List (Nat × List Int)) (k : Nat), shiftL M (lentR 0 k T) = lentR M k T
  | [], _ => rfl
  | t :: T, k => by simp only [lentR, shiftL, AV.shift, shiftL_lentR M T (k + 1), Nat.zero_add]
abbrev shE (M : Nat) (e : Ent) : Ent := ⟨e.ver, e.kind.shift M⟩
theorem blk_shift (M : Nat) {ks : List St} {ls : List Ln} {e4 : Ent} {life : Int} {L I W : List Int} {vi : Nat} {T : List (Nat × List Int)} :
    (blk 0 ks ls ⟨0, .row 2 [storA ks ls]⟩ e4 life L vi I W T []).map (shE M) = blk M ks ls ⟨0, .row 2 [storA ks ls]⟩ (shE M e4) life L vi I W T [] := by
  have h1 : ∀ l : List Int, shiftL M (l.map AV.int) = l.map AV.int := fun l => shiftL_ok M _ (by simp only [push_cast])
  have h2 : shiftL M (ks.map stA) = ks.map stA := shiftL_ok M _ (by simp only [push_cast])
  have h3 : shiftL M (ls.map lnA) = ls.map lnA := shiftL_ok M _ (by simp only [push_cast])
  have h4 : (T.map lentE).map (shE M) = T.map lentE := by
    rw [List.map_map]
    exact List.map_congr_left fun t _ => by simp [lentE, shE, Kind.shift, h1]
  simp only [blk, benR, List.map_cons, List.map_append, h4, List.map_nil]
  simp [shE, Kind.shift, shiftL, AV.shift, h1, h2, h3, shiftL_lentR]
structure Bn where
  e4 : Ent
  vi : Nat
  I : List Int
  W : List Int
  T : List (Nat × List Int)
abbrev bn0 : Bn := ⟨⟨0, .row 1 []⟩, 0, [], [], []⟩
def bks (ks : List St) (ls : List Ln) : Nat → Nat → List Bn → Mem
  | _, _, [] => []
  | N, j, b :: bs => blk N ks ls ⟨0, .row 2 [storA ks ls]⟩ b.e4 (ks.getD j st0).life (loanP ls j ls.length) b.vi b.I b.W b.T (bks ks ls (N + (7 + b.T.length)) (j + 1) bs)
def bsz : List Bn → Nat
  | [] => 0
  | b :: bs => 7 + b.T.length + bsz bs
def bptr : Nat → List Bn → List AV
  | _, [] => []
  | N, b :: bs => .optr (N + 3) 1 0 0 :: bptr (N + (7 + b.T.length)) bs
theorem blk_app {N : Nat} {ks : List St} {ls : List Ln} {e0 e4 : Ent} {life : Int} {L I W : List Int} {vi : Nat} {T : List (Nat × List Int)} {G H : Mem} : blk N ks ls e0 e4 life L vi I W T G ++ H = blk N ks ls e0 e4 life L vi I W T (G ++ H) := by
  simp [blk]
theorem bptr_len : ∀ (bs : List Bn) (N : Nat), (bptr N bs).length = bs.length
  | [], _ => rfl
  | b :: bs, N => by simp [bptr, bptr_len bs]
theorem bks_len (ks : List St) (ls : List Ln) : ∀ (bs : List Bn) (N j : Nat), (bks ks ls N j bs).length = bsz bs
  | [], _, _ => rfl
  | b :: bs, N, j => by simp [bks, blk, bsz, bks_len ks ls bs]; omega
theorem bks_snoc (ks : List St) (ls : List Ln) (b : Bn) : ∀ (bs : List Bn) (N j : Nat), bks ks ls N j bs ++ blk (N + bsz bs) ks ls ⟨0, .row 2 [storA ks ls]⟩ b.e4 (ks.getD (j + bs.length) st0).life (loanP ls (j + bs.length : Nat) ls.length) b.vi b.I b.W b.T [] = bks ks ls N j (bs ++ [b])
  | [], N, j => by simp only [bks, bsz, List.nil_append, List.length_nil, Nat.add_zero]
  | a :: bs, N, j => by
    have := bks_snoc ks ls b bs (N + (7 + a.T.length)) (j + 1)
    rw [show j + 1 + bs.length = j + (a :: bs).length by simp; omega, show N + (7 + a.T.length) + bsz bs = N + bsz (a :: bs) by simp only [bsz]; omega] at this
    simp only [bks, List.cons_append]
    rw [← this]
    simp only [blk, List.cons_append, List.append_assoc]
theorem bptr_snoc (b : Bn) : ∀ (bs : List Bn) (N : Nat), bptr N (bs ++ [b]) = bptr N bs ++ [.optr (N + bsz bs + 3) 1 0 0]
  | [], N => by simp [bptr, bsz]
  | a :: bs, N => by
    simp only [List.cons_append, bptr, bptr_snoc b bs, bsz, ← Nat.add_assoc]
theorem bks_split (ks : List St) (ls : List Ln) : ∀ (bs : List Bn) (N j k : Nat), k < bs.length → ∃ (A G : Mem) (M : Nat), M = N + A.length ∧ (∀ d, (bptr N bs).getD k d = .optr (M + 3) 1 0 0) ∧
    ∀ b' : Bn, b'.T.length = (bs.getD k bn0).T.length → bks ks ls N j (bs.set k b') = A ++ blk M ks ls ⟨0, .row 2 [storA ks ls]⟩ b'.e4 (ks.getD (j + k) st0).life (loanP ls (j + k : Nat) ls.length) b'.vi b'.I b'.W b'.T G ∧ bptr N (bs.set k b') = bptr N bs
  | [], _, _, _, h => by simp at h
  | b :: bs, N, j, 0, _ => by
    refine ⟨[], bks ks ls (N + (7 + b.T.length)) (j + 1) bs, N, rfl, fun d => rfl, fun b' hb => ?_⟩
    simp only [List.getD_cons_zero] at hb
    simp only [List.set_cons_zero, bks, bptr, hb, List.nil_append, Nat.add_zero]
    exact ⟨trivial, trivial⟩
  | b :: bs, N, j, k + 1, h => by
    obtain ⟨A, G, M, h1, h2, h3⟩ := bks_split ks ls bs (N + (7 + b.T.length)) (j + 1) k (by simpa using h)
    refine ⟨blk N ks ls ⟨0, .row 2 [storA ks ls]⟩ b.e4 (ks.getD j st0).life (loanP ls j ls.length) b.vi b.I b.W b.T A, G, M, ?_, fun d => by simpa [bptr] using h2 d, fun b' hb => ?_⟩
    · rw [h1]; simp [blk]; omega
    · obtain ⟨q1, q2⟩ := h3 b' (by simpa using hb)
      rw [show j + 1 + k = j + (k + 1) by omega] at q1
      simp only [List.set_cons_succ, bks, bptr, blk_app, q1, q2]
      exact ⟨trivial, trivial⟩
end Go.Proofs.Try
set_option maxHeartbeats 8000000
namespace Go.Proofs.Try
open Go.Vg

/-! whether so many items are enough -/
theorem loanP_mem {ls : List Ln} {kind : Int} {k : Nat} : ∀ x ∈ loanP ls kind k, ∃ i : Nat, x = (i : Int) ∧ i < k ∧ (ls.getD i ln0).kind = kind := by
  intro x hx
  unfold loanP at hx
  rw [List.mem_map] at hx
  obtain ⟨i, hi, rfl⟩ := hx
  rw [List.mem_filter, List.mem_range] at hi
  exact ⟨i, rfl, hi.1, of_decide_eq_true hi.2⟩
theorem loanP_in (ls : List Ln) (kind : Int) : ∀ x ∈ loanP ls kind ls.length, 0 ≤ x ∧ x < (ls.length : Int) := fun x hx => by
  obtain ⟨i, rfl, h, _⟩ := loanP_mem x hx; omega
theorem uL_bd {ks : List St} {ls : List Ln} (hv : SV ks ls) (L : List Int) (i : Nat) : 0 ≤ uL ls L i ∧ uL ls L i ≤ 100 := by
  unfold uL
  by_cases h : (L.getD i 0).toNat < ls.length
  · have := (hv.ln _ h).2.2; omega
  · have : ls.getD (L.getD i 0).toNat ln0 = ln0 := by
      generalize (L.getD i 0).toNat = k at h
      rw [List.getD_eq_getElem?_getD, List.getElem?_eq_none (by omega)]; rfl
    rw [this]; decide
end Go.Proofs.Try
set_option maxHeartbeats 8000000
namespace Go.Proofs.Try
open Go.Vg

/-! how many items are needed -/
end Go.Proofs.Try
set_option maxHeartbeats 8000000
namespace Go.Proofs.Try
open Go.Vg

/-! a plan is right if it is right kind by kind -/
def cS (ks : List St) (ls : List Ln) (i : Nat) : Nat := (ks.getD (ls.getD i ln0).kind.toNat st0).items.toNat
def okS (ks : List St) (ls : List Ln) (p : List Int) : Bool := !wrongB ks ls p (p.length - 1)
/-- the items of some loans -/
def pick (L J : List Int) : List Int := L.map fun i => J.getD i.toNat 0
theorem pick_len (L J : List Int) : (pick L J).length = L.length := by simp [pick]
theorem pick_get {L J : List Int} {q : Nat} (h : q < L.length) : (pick L J).getD q 0 = J.getD (L.getD q 0).toNat 0 := by simp [pick, h]
theorem loanP_mono (ls : List Ln) (kind : Int) {n : Nat} : ∀ {N : Nat}, n ≤ N → ∃ R, loanP ls kind N = loanP ls kind n ++ R
  | 0, h => by obtain rfl : n = 0 := by omega
               exact ⟨[], by simp⟩
  | N + 1, h => by
    by_cases hn : n = N + 1
    · subst hn; exact ⟨[], by simp⟩
    · obtain ⟨R, hR⟩ := loanP_mono ls kind (n := n) (N := N) (by omega)
      rw [loanP_succ]
      split
      · exact ⟨R ++ [(N : Int)], by rw [hR, List.append_assoc]⟩
      · exact ⟨R, hR⟩
/-- the place of a loan among those of its kind -/
def plc (ls : List Ln) (kind : Int) (n : Nat) : Nat := (loanP ls kind n).length
theorem plc_succ (ls : List Ln) (kind : Int) (n : Nat) : plc ls kind (n + 1) = if (ls.getD n ln0).kind = kind then plc ls kind n + 1 else plc ls kind n := by
  unfold plc; rw [loanP_succ]
  by_cases h : (ls.getD n ln0).kind = kind
  · rw [if_pos (decide_eq_true h), if_pos h, List.length_append]; rfl
  · rw [if_neg (by rw [decide_eq_false h]; simp), if_neg h]
theorem loanP_at {ls : List Ln} {kind : Int} {n N : Nat} (h : n < N) (hk : (ls.getD n ln0).kind = kind) : plc ls kind n < (loanP ls kind N).length ∧ (loanP ls kind N).getD (plc ls kind n) 0 = (n : Int) := by
  obtain ⟨R, hR⟩ := loanP_mono ls kind (n := n + 1) (N := N) (by omega)
  have h1 : loanP ls kind (n + 1) = loanP ls kind n ++ [(n : Int)] := by rw [loanP_succ, if_pos (decide_eq_true hk)]
  rw [hR, h1]
  refine ⟨by simp [plc], ?_⟩
  rw [List.append_assoc]
  simp [plc]
theorem plc_at {ls : List Ln} {kind : Int} {N q : Nat} (h : q < (loanP ls kind N).length) : ∃ n : Nat, n < N ∧ (ls.getD n ln0).kind = kind ∧ (loanP ls kind N).getD q 0 = (n : Int) ∧ plc ls kind n = q := by
  induction N with
  | zero => simp [loanP] at h
  | succ N ih =>
    rw [loanP_succ] at h ⊢
    split at h
    · rename_i hk
      rw [if_pos hk]
      rw [List.length_append, List.length_singleton] at h
      by_cases hq : q < (loanP ls kind N).length
      · obtain ⟨n, h1, h2, h3, h4⟩ := ih hq
        exact ⟨n, by omega, h2, by rw [getD_left hq]; exact h3, h4⟩
      · obtain rfl : q = (loanP ls kind N).length := by omega
        exact ⟨N, by omega, of_decide_eq_true hk, by rw [getD_last], rfl⟩
    · rename_i hk
      rw [if_neg hk]
      obtain ⟨n, h1, h2, h3, h4⟩ := ih h
      exact ⟨n, by omega, h2, h3, h4⟩
section
variable {ks : List St} {ls : List Ln} {kind : Int}
theorem mate_iff {J : List Int} {i n : Nat} (hk : (ls.getD i ln0).kind = kind) : mateB ls J i n = true ↔ (ls.getD n ln0).kind = kind ∧ J.getD n 0 = J.getD i 0 := by
  unfold mateB; rw [Bool.and_eq_true, decide_eq_true_eq, decide_eq_true_eq, hk]
theorem sum_kind {J : List Int} {i : Nat} (hk : (ls.getD i ln0).kind = kind) : ∀ n, n ≤ ls.length → sumU ls J i n = sW (uL ls (loanP ls kind ls.length)) (pick (loanP ls kind ls.length) J) (J.getD i 0) (plc ls kind n)
  | 0, _ => rfl
  | n + 1, hn => by
    have ih := sum_kind (J := J) hk n (by omega)
    rw [plc_succ]
    simp only [sumU]
    by_cases h : (ls.getD n ln0).kind = kind
    · obtain ⟨h1, h2⟩ := loanP_at (N := ls.length) (by omega) h
      rw [if_pos h]
      simp only [sW]
      rw [pick_get h1, h2, Int.toNat_natCast]
      have hu : uL ls (loanP ls kind ls.length) (plc ls kind n) = (ls.getD n ln0).uses := by unfold uL; rw [h2, Int.toNat_natCast]
      by_cases h3 : J.getD n 0 = J.getD i 0
      · rw [if_pos ((mate_iff hk).2 ⟨h, h3⟩), if_pos h3, ih, hu]
      · rw [if_neg (fun hm => h3 ((mate_iff hk).1 hm).2), if_neg h3, ih]
    · rw [if_neg h, if_neg (fun hm => h ((mate_iff hk).1 hm).1), ih]
theorem clash_kind {J : List Int} {i : Nat} (hi : i < ls.length) (hk : (ls.getD i ln0).kind = kind) : ∀ n, n ≤ ls.length → clashB ls J i n = (lnI (pick (loanP ls kind ls.length) J) (J.getD i 0) (plc ls kind n)).any fun a => oL ls (loanP ls kind ls.length) a (plc ls kind i)
  | 0, _ => rfl
  | n + 1, hn => by
    have ih := clash_kind (J := J) hi hk n (by omega)
    rw [plc_succ]
    simp only [clashB]
    by_cases h : (ls.getD n ln0).kind = kind
    · obtain ⟨h1, h2⟩ := loanP_at (N := ls.length) (by omega) h
      obtain ⟨h4, h5⟩ := loanP_at (N := ls.length) hi hk
      rw [if_pos h, lnI_succ, pick_get h1, h2, Int.toNat_natCast]
      have ho : oL ls (loanP ls kind ls.length) (plc ls kind n) (plc ls kind i) = ovB (ls.getD n ln0) (ls.getD i ln0) := by unfold oL; rw [h2, h5, Int.toNat_natCast, Int.toNat_natCast]
      by_cases h3 : J.getD n 0 = J.getD i 0
      · rw [if_pos h3, List.any_append, ih, (mate_iff hk).2 ⟨h, h3⟩]
        simp [ho]
      · rw [if_neg h3, ih, show mateB ls J i n = false by rw [← Bool.not_eq_true]; exact fun hm => h3 ((mate_iff hk).1 hm).2]
        simp
    · rw [if_neg h, ih, show mateB ls J i n = false by rw [← Bool.not_eq_true]; exact fun hm => h ((mate_iff hk).1 hm).1]
      simp
theorem ok_take {J : List Int} {i : Nat} (hi : i < J.length) : okS ks ls (J.take (i + 1)) = !wrongB ks ls J i := by
  unfold okS
  rw [List.length_take, Nat.min_eq_left (by omega), Nat.add_sub_cancel, wrongB_take]
theorem okU_take {u : Nat → Int} {o : Nat → Nat → Bool} {life : Int} {J : List Int} {k : Nat} (h : k < J.length) : okU u o life (J.take (k + 1)) = (decide (sW u J (J.getD k 0) k + u k ≤ life) && !(lnI J (J.getD k 0) k).any fun i => o i k) := by
  have hl : (J.take k).length = k := by rw [List.length_take, Nat.min_eq_left (by omega)]
  have h1 := sW_left u (J.take k) (J.drop k) (J.getD k 0) (n := k) (by omega)
  have h2 := lnI_left (J.take k) (J.drop k) (J.getD k 0) (n := k) (by omega)
  rw [List.take_append_drop] at h1 h2
  rw [take_succ_getD h, okU_snoc, hl, h1, h2]
theorem ok_kind {J : List Int} (hJ : J.length = ls.length) {i : Nat} (hi : i < ls.length) (hk : (ls.getD i ln0).kind = kind) (h0 : 0 ≤ J.getD i 0) : okS ks ls (J.take (i + 1)) = okK ls (ks.getD kind.toNat st0).life (loanP ls kind ls.length) ((pick (loanP ls kind ls.length) J).take (plc ls kind i + 1)) := by
  obtain ⟨h1, h2⟩ := loanP_at (N := ls.length) hi hk
  rw [ok_take (by omega)]
  unfold okK
  rw [okU_take (by rw [pick_len]; exact h1), pick_get h1, h2, Int.toNat_natCast]
  unfold wrongB
  rw [decide_eq_false (show ¬ J.getD i 0 < 0 by omega), clash_kind hi hk i (by omega), sum_kind hk i (by omega), hk, Bool.false_or, Bool.not_or, Bool.and_comm]
  have hu : uL ls (loanP ls kind ls.length) (plc ls kind i) = (ls.getD i ln0).uses := by unfold uL; rw [h2, Int.toNat_natCast]
  rw [hu]
  congr 1
  rw [Bool.eq_iff_iff]
  simp only [Bool.not_eq_true', decide_eq_true_eq, decide_eq_false_iff_not]
  omega
end
/-- right in all kinds, and right -/
theorem right_kinds {ks : List St} {ls : List Ln} (hv : SV ks ls) {J : List Int} (hJ : J.length = ls.length) : RtF (cS ks ls) (okS ks ls) 0 J ↔ ∀ k : Nat, k < ks.length → RtF (fun _ => (ks.getD k st0).items.toNat) (okK ls (ks.getD k st0).life (loanP ls (k : Int) ls.length)) 0 (pick (loanP ls (k : Int) ls.length) J) := by
  constructor
  · intro h k hk q _ hq
    rw [pick_len] at hq
    obtain ⟨n, h1, h2, h3, h4⟩ := plc_at hq
    obtain ⟨j, h5, h6, h7⟩ := h n (by omega) (by omega)
    have hok := ok_kind (ks := ks) hJ h1 h2 (by omega)
    rw [Int.toNat_natCast] at hok
    refine ⟨j, ?_, by rw [pick_get hq, h3, Int.toNat_natCast]; exact h6, ?_⟩
    · unfold cS at h5; rw [h2, Int.toNat_natCast] at h5; exact h5
    · rw [← h4, ← hok]; exact h7
  · intro h i _ hi
    have hi : i < ls.length := by omega
    have hki := (hv.ln i hi).1
    obtain ⟨k, hk⟩ : ∃ k : Nat, (ls.getD i ln0).kind = (k : Int) := ⟨(ls.getD i ln0).kind.toNat, by omega⟩
    obtain ⟨h1, h2⟩ := loanP_at (N := ls.length) hi hk
    obtain ⟨j, h5, h6, h7⟩ := h k (by omega) (plc ls (k : Int) i) (by omega) (by rw [pick_len]; exact h1)
    rw [pick_get h1, h2, Int.toNat_natCast] at h6
    have hok := ok_kind (ks := ks) hJ hi hk (by omega)
    rw [Int.toNat_natCast] at hok
    refine ⟨j, ?_, h6, ?_⟩
    · unfold cS; rw [hk, Int.toNat_natCast]; exact h5
    · rw [hok]; exact h7
/-- what each kind says, put together -/
def glue (ls : List Ln) (f : Nat → List Int) (n : Nat) : List Int := (List.range n).map fun i => (f (ls.getD i ln0).kind.toNat).getD (plc ls (ls.getD i ln0).kind i) 0
theorem glue_len (ls : List Ln) (f : Nat → List Int) (n : Nat) : (glue ls f n).length = n := by simp [glue]
theorem glue_get {ls : List Ln} {f : Nat → List Int} {n i : Nat} (h : i < n) : (glue ls f n).getD i 0 = (f (ls.getD i ln0).kind.toNat).getD (plc ls (ls.getD i ln0).kind i) 0 := by simp [glue, h]
theorem pick_glue {ls : List Ln} {f : Nat → List Int} {k : Nat} (hf : (f k).length = (loanP ls (k : Int) ls.length).length) : pick (loanP ls (k : Int) ls.length) (glue ls f ls.length) = f k := by
  apply List.ext_getElem (by rw [pick_len, hf])
  intro q h1 h2
  rw [pick_len] at h1
  have e1 := pick_get (J := glue ls f ls.length) h1
  obtain ⟨n, h3, h4, h5, h6⟩ := plc_at h1
  rw [h5, Int.toNat_natCast, glue_get h3, h4, Int.toNat_natCast, h6] at e1
  simpa [List.getD_eq_getElem?_getD, h1, h2, pick_len] using e1
theorem pick_ext {ls : List Ln} {J J' : List Int} {k : Int} {q : Nat} (hq : q < (loanP ls k ls.length).length) {n : Nat} (hn : plc ls k n = q) (h : J.take n = J'.take n) : (pick (loanP ls k ls.length) J).take q = (pick (loanP ls k ls.length) J').take q := by
  have hl : ((loanP ls k ls.length).take q).length = q := by rw [List.length_take]; omega
  unfold pick
  rw [← List.map_take, ← List.map_take]
  apply List.map_congr_left
  intro x hx
  have hm : x ∈ loanP ls k n := by
    rcases Nat.le_total n ls.length with hnl | hnl
    · obtain ⟨R, hR⟩ := loanP_mono ls k hnl
      rw [hR, ← hn, plc, List.take_left'] at hx
      · exact hx
      · rfl
    · obtain ⟨R, hR⟩ := loanP_mono ls k hnl
      rw [hR]; exact List.mem_append_left _ (List.mem_of_mem_take hx)
  obtain ⟨i, rfl, hi, _⟩ := loanP_mem x hm
  rw [Int.toNat_natCast]
  have := congrArg (fun l => l.getD i 0) h
  simpa [List.getD_eq_getElem?_getD, List.getElem?_take, hi] using this
theorem getD_ext {J J' : List Int} (hl : J.length = J'.length) (h : ∀ i, i < J.length → J.getD i 0 = J'.getD i 0) : J = J' := by
  apply List.ext_getElem hl
  intro i h1 h2
  have := h i h1
  simpa [List.getD_eq_getElem?_getD, h1, h2] using this
theorem take_ext {J J' : List Int} {n : Nat} (hl : J.length = J'.length) (h : ∀ i, i < n → J.getD i 0 = J'.getD i 0) : J.take n = J'.take n := by
  apply getD_ext (by simp [hl])
  intro i hi
  have : i < n := by rw [List.length_take] at hi; omega
  have := h i this
  simp only [List.getD_eq_getElem?_getD, List.getElem?_take, *, if_true] at *
  exact this
/-- two lists of the same length: the first place where they differ -/
theorem first_diff : ∀ {n : Nat} (J J' : List Int), J.length = n → J'.length = n → J = J' ∨ ∃ i, i < n ∧ J.take i = J'.take i ∧ J.getD i 0 ≠ J'.getD i 0 := by
  intro n J J' h h'
  by_cases he : ∃ i, i < n ∧ J.getD i 0 ≠ J'.getD i 0
  · right
    have : ∀ m, (∃ i, i < m ∧ i < n ∧ J.getD i 0 ≠ J'.getD i 0) → ∃ i, i < n ∧ (∀ j, j < i → J.getD j 0 = J'.getD j 0) ∧ J.getD i 0 ≠ J'.getD i 0 := by
      intro m
      induction m with
      | zero => rintro ⟨i, h1, _⟩; omega
      | succ m ih =>
        rintro ⟨i, h1, h2, h3⟩
        by_cases hx : ∃ i, i < m ∧ i < n ∧ J.getD i 0 ≠ J'.getD i 0
        · exact ih hx
        · obtain rfl : i = m := by
            apply Classical.byContradiction
            intro hne; exact hx ⟨i, by omega, h2, h3⟩
          refine ⟨i, h2, fun j hj => ?_, h3⟩
          apply Classical.byContradiction
          intro hne; exact hx ⟨j, hj, by omega, hne⟩
    obtain ⟨i, h1, h2⟩ := he
    obtain ⟨i, h3, h4, h5⟩ := this n ⟨i, h1, h1, h2⟩
    exact ⟨i, h3, take_ext (by omega) h4, h5⟩
  · left
    apply getD_ext (by omega)
    intro i hi
    apply Classical.byContradiction
    intro hne; exact he ⟨i, by omega, hne⟩
end Go.Proofs.Try
set_option maxHeartbeats 8000000
namespace Go.Proofs.Try
open Go.Vg

/-! the first one that differs least -/
def dfN (p : Nat → Int) (I : List Int) : Nat → Int
  | 0 => 0
  | q + 1 => if p q = I.getD q 0 then dfN p I q else dfN p I q + 1
def dfI (p : Nat → Int) (I : List Int) : Int := dfN p I I.length
theorem dfN_left (p : Nat → Int) (I J : List Int) : ∀ {n : Nat}, n ≤ I.length → dfN p (I ++ J) n = dfN p I n
  | 0, _ => rfl
  | n + 1, h => by simp only [dfN]; rw [getD_left (by omega), dfN_left p I J (by omega)]
theorem dfI_snoc (p : Nat → Int) (I : List Int) (x : Int) : dfI p (I ++ [x]) = if p I.length = x then dfI p I else dfI p I + 1 := by
  unfold dfI
  rw [List.length_append, List.length_singleton]
  simp only [dfN]
  rw [getD_last, dfN_left p I [x] (Nat.le_refl _)]
theorem dfN_mono (p : Nat → Int) (I : List Int) {n : Nat} : ∀ {m : Nat}, n ≤ m → dfN p I n ≤ dfN p I m
  | 0, h => by obtain rfl : n = 0 := by omega
               exact Int.le_refl _
  | m + 1, h => by
    by_cases hn : n = m + 1
    · rw [hn]; exact Int.le_refl _
    · have := dfN_mono p I (n := n) (m := m) (by omega)
      simp only [dfN]; split <;> omega
theorem dfN_bd (p : Nat → Int) (I : List Int) : ∀ n : Nat, 0 ≤ dfN p I n ∧ dfN p I n ≤ n
  | 0 => by simp [dfN]
  | n + 1 => by have := dfN_bd p I n; simp only [dfN]; split <;> omega
theorem dfI_ext {p : Nat → Int} {c : Nat → Nat} {ok : List Int → Bool} {r : Nat} {I J : List Int} (h : Ext c ok r I J) : dfI p I ≤ dfI p J := by
  obtain ⟨h1, h2, _⟩ := h
  have e : J = I ++ J.drop I.length := by
    conv => lhs; rw [← List.take_append_drop I.length J]
    rw [h2]
  unfold dfI
  rw [← dfN_left p I (J.drop I.length) (Nat.le_refl _), ← e]
  exact dfN_mono p J (by omega)
/-- the best so far, and in how many it differs -/
abbrev Bs := Option (List Int × Int)
def betB (s : Bs) (J : List Int) (d : Int) : Bs :=
  match s with
  | none => some (J, d)
  | some (J0, m) => if d < m then some (J, d) else some (J0, m)
def stF (D : List Int → Int) (s : Bs) (l : List (List Int)) : Bs := l.foldl (fun s J => betB s J (D J)) s
theorem stF_app (D : List Int → Int) (s : Bs) (l l' : List (List Int)) : stF D s (l ++ l') = stF D (stF D s l) l' := by unfold stF; rw [List.foldl_append]
theorem stF_snoc (D : List Int → Int) (s : Bs) (l : List (List Int)) (J : List Int) : stF D s (l ++ [J]) = betB (stF D s l) J (D J) := by rw [stF_app]; rfl
/-- nothing is better -/
theorem stF_prune {D : List Int → Int} {J : List Int} {m : Int} : ∀ {l : List (List Int)}, (∀ x ∈ l, m ≤ D x) → stF D (some (J, m)) l = some (J, m)
  | [], _ => rfl
  | a :: l, h => by
    have h1 := h a (by simp)
    show stF D (betB (some (J, m)) a (D a)) l = _
    unfold betB
    simp only
    rw [if_neg (by omega)]
    exact stF_prune fun x hx => h x (by simp [hx])
/-- the first of those for which D is least -/
def BestIn (D : List Int → Int) (P : List Int → Prop) (J : List Int) : Prop := P J ∧ ∀ J', P J' → D J < D J' ∨ (D J = D J' ∧ (J = J' ∨ LxT J J'))
theorem BestIn.uniq {D : List Int → Int} {P : List Int → Prop} {J J' : List Int} (h : BestIn D P J) (h' : BestIn D P J') (hl : ∀ x, P x → x.length = J.length) : J = J' := by
  have hJ := hl _ h'.1
  rcases h.2 J' h'.1 with h1 | ⟨h1, h2 | h2⟩
  · rcases h'.2 J h.1 with h3 | ⟨h3, _⟩ <;> omega
  · exact h2
  · rcases h'.2 J h.1 with h3 | ⟨h3, h4 | h4⟩
    · omega
    · exact h4.symm
    · exact absurd h4 (fun h4 => LxT.asymm (by omega) h2 h4)
theorem LxT.trans {J K M : List Int} (h1 : LxT J K) (h2 : LxT K M) (hl : J.length = K.length) (hl2 : K.length = M.length) : LxT J M := by
  obtain ⟨i, a1, a2, a3⟩ := h1
  obtain ⟨k, b1, b2, b3⟩ := h2
  have hg : ∀ {A B : List Int} {n m : Nat}, A.take n = B.take n → m < n → A.getD m 0 = B.getD m 0 := by
    intro A B n m e hm
    have := congrArg (fun l => l.getD m 0) e
    simpa [List.getD_eq_getElem?_getD, List.getElem?_take, hm] using this
  have ht : ∀ {A B : List Int} {n m : Nat}, A.take n = B.take n → m ≤ n → A.take m = B.take m := by
    intro A B n m e hm
    have := congrArg (fun l => l.take m) e
    simpa [List.take_take, Nat.min_eq_left hm] using this
  rcases Nat.lt_trichotomy i k with h | h | h
  · exact ⟨i, a1, by rw [a2]; exact ht b2 (by omega), by rw [← hg b2 h]; exact a3⟩
  · subst h; exact ⟨i, a1, by rw [a2, b2], by omega⟩
  · exact ⟨k, by omega, by rw [ht a2 (by omega : k ≤ i), b2], by rw [hg a2 h]; exact b3⟩
theorem stF_best {D : List Int → Int} : ∀ {l : List (List Int)}, l.Pairwise LxT → (stF D none l = none ∧ l = []) ∨ ∃ J, stF D none l = some (J, D J) ∧ BestIn D (fun x => x ∈ l) J := by
  intro l
  induction h : l.length generalizing l with
  | zero => intro _; exact .inl ⟨by rw [List.eq_nil_of_length_eq_zero h]; rfl, List.eq_nil_of_length_eq_zero h⟩
  | succ n ih =>
    intro hs
    right
    rcases List.eq_nil_or_concat l with he | ⟨l', a, he⟩
    · subst he; simp at h
    · rw [List.concat_eq_append] at he
      subst he
      rw [stF_snoc]
      rw [List.pairwise_append] at hs
      obtain ⟨s1, _, s3⟩ := hs
      rcases ih (l := l') (by simpa using h) s1 with ⟨e1, e2⟩ | ⟨J, e1, e2, e3⟩
      · subst e2
        rw [e1]
        exact ⟨a, rfl, by simp, fun J' hJ' => by simp at hJ'; exact .inr ⟨by rw [hJ'], .inl hJ'.symm⟩⟩
      · rw [e1]
        unfold betB
        simp only
        by_cases hlt : D a < D J
        · rw [if_pos hlt]
          refine ⟨a, rfl, by simp, fun J' hJ' => ?_⟩
          have hJ' : J' ∈ l' ++ [a] := hJ'
          rw [List.mem_append, List.mem_singleton] at hJ'
          rcases hJ' with hJ' | hJ'
          · left
            rcases e3 J' hJ' with h5 | ⟨h5, _⟩ <;> omega
          · exact .inr ⟨by rw [hJ'], .inl hJ'.symm⟩
        · rw [if_neg hlt]
          have e2 : J ∈ l' := e2
          refine ⟨J, rfl, by simp [e2], fun J' hJ' => ?_⟩
          have hJ' : J' ∈ l' ++ [a] := hJ'
          rw [List.mem_append, List.mem_singleton] at hJ'
          rcases hJ' with hJ' | hJ'
          · exact e3 J' hJ'
          · rw [hJ']
            have hx := s3 J e2 a (by simp)
            by_cases heq : D J = D a
            · exact .inr ⟨heq, .inr hx⟩
            · left; omega
theorem plF_sorted {f : Nat → List (List Int)} : ∀ {d j : Nat}, (∀ i, j ≤ i → i < j + d → (f i).Pairwise LxT) → (∀ i i', j ≤ i → i < i' → i' < j + d → ∀ x ∈ f i, ∀ y ∈ f i', LxT x y) → (plF f d j).Pairwise LxT
  | 0, j, _, _ => List.Pairwise.nil
  | d + 1, j, h1, h2 => by
    simp only [plF]
    rw [List.pairwise_append]
    refine ⟨h1 j (Nat.le_refl _) (by omega), plF_sorted (fun i h3 h4 => h1 i (by omega) (by omega)) (fun i i' h3 h4 h5 => h2 i i' (by omega) h4 (by omega)), fun x hx y hy => ?_⟩
    obtain ⟨i, h3, h4, h5⟩ := plF_mem.1 hy
    exact h2 j i (Nat.le_refl _) (by omega) (by omega) x hx y h5
theorem plL_sorted {c : Nat → Nat} {ok : List Int → Bool} : ∀ {r : Nat} {I : List Int}, (plL c ok r I).Pairwise LxT
  | 0, I => by simp [plL]
  | r + 1, I => by
    simp only [plL]
    refine plF_sorted (fun i _ _ => ?_) (fun i i' _ hlt _ x hx y hy => ?_)
    · split
      · exact plL_sorted
      · exact List.Pairwise.nil
    · split at hx
      · split at hy
        · obtain ⟨a1, a2, _⟩ := plL_mem.1 hx
          obtain ⟨b1, b2, _⟩ := plL_mem.1 hy
          simp only [List.length_append, List.length_cons, List.length_nil, Nat.zero_add] at a1 a2 b1 b2
          have f1 := take_succ_getD (J := x) (n := I.length) (by omega)
          have f2 := take_succ_getD (J := y) (n := I.length) (by omega)
          rw [a2] at f1
          rw [b2] at f2
          have g1 := List.append_inj f1 (by simp; omega)
          have g2 := List.append_inj f2 (by simp; omega)
          refine ⟨I.length, by omega, by rw [← g1.1, ← g2.1], ?_⟩
          have k1 := g1.2
          have k2 := g2.2
          injection k1 with k1
          injection k2 with k2
          omega
        · cases hy
      · cases hx
end Go.Proofs.Try
set_option maxHeartbeats 8000000
namespace Go.Vg
/-- branches meet again in one state, and something is known -/
theorem Wp.meet {P : Program} {r : Option Nat} {c : Code} {Q : Exit → S → Prop} {s : S} (s1 : S) (C : Prop) (h1 : Wp P r c (tQ (fun s' => Le s' s1 ∧ C) Q) s) (h2 : ∀ s', Le s' s1 → C → Q .normal s') : Wp P r c Q s :=
  h1.mono (by
    intro e s' h
    cases e
    case normal => exact h2 s' h.1 h.2
    all_goals exact h)
theorem set_len {M : Mem} (e e' : Ent) : (M ++ [e]).set M.length e' = M ++ [e'] := by simp
theorem get_app {M : Mem} {i : Nat} {e : Ent} (h : M[i]? = some e) (l : Mem) : (M ++ l)[i]? = some e := by
  rw [List.getElem?_append_left (List.getElem?_eq_some_iff.1 h).1]; exact h
end Go.Vg
namespace Go.Proofs.Try
open Go.Vg

/-! the search of a repair, in plain words -/
def okX (ls : List Ln) (life : Int) (L : List Int) (lost : Int) (I : List Int) : Bool := okK ls life L I && !decide (I.getD (I.length - 1) 0 = lost)
def lkP (pl L : List Int) (q : Nat) : Int := pl.getD (L.getD q 0).toNat 0
def dL (pl L I : List Int) : Int := dfI (lkP pl L) I
def lkS (ls : List Ln) (life : Int) (L : List Int) (n : Nat) (pl : List Int) (lost : Int) (r : Nat) (I : List Int) (st : Bs) : Bs := stF (dL pl L) st (plL (fun _ => n) (okX ls life L lost) r I)
def bA : Bs → AV
  | none => .nil
  | some (J, _) => .ints J
def mA : Bs → Int
  | none => 0
  | some (_, m) => m
theorem nilB_bA {m : Mem} {st : Bs} (h : ∀ J d, st = some (J, d) → J ≠ []) : nilB m (bA st) = some st.isNone := by
  cases st with
  | none => rfl
  | some p =>
    obtain ⟨J, d⟩ := p
    cases J with
    | nil => exact absurd rfl (h [] d rfl)
    | cons a J => rfl
abbrev repE (N : Nat) (pl : List Int) (lost : Int) (st : Bs) : Ent := ⟨0, .row 5 [.agg [.optr (N + 3) 1 0 0, .ints pl, .int lost, bA st, .int (mA st)]]⟩
def prB (st : Bs) (c : Int) : Bool := !st.isNone && decide (mA st ≤ c)
theorem lk_prune {ls : List Ln} {life : Int} {L : List Int} {n : Nat} {pl : List Int} {lost : Int} {r : Nat} {I : List Int} {st : Bs} (h : prB st (dL pl L I) = true) : lkS ls life L n pl lost r I st = st := by
  cases st with
  | none => simp [prB] at h
  | some p =>
    obtain ⟨J, m⟩ := p
    unfold prB at h
    rw [Bool.and_eq_true, decide_eq_true_eq] at h
    have h := h.2
    refine stF_prune fun x hx => ?_
    have h2 : dL pl L I ≤ dL pl L x := dfI_ext (p := lkP pl L) (plL_mem.1 hx)
    exact Int.le_trans h h2
theorem lk_zero {ls : List Ln} {life : Int} {L : List Int} {n : Nat} {pl : List Int} {lost : Int} {I : List Int} {st : Bs} (h : prB st (dL pl L I) = false) : lkS ls life L n pl lost 0 I st = some (I, dL pl L I) := by
  unfold lkS
  show betB st I (dL pl L I) = _
  cases st with
  | none => rfl
  | some p =>
    obtain ⟨J, m⟩ := p
    unfold prB at h
    simp only [Option.isNone_some, Bool.not_false, Bool.true_and, decide_eq_false_iff_not, mA] at h
    have h : ¬ m ≤ dL pl L I := of_decide_eq_false h
    show (if dL pl L I < m then some (I, dL pl L I) else some (J, m)) = _
    rw [if_pos (by omega)]
def lkF (ls : List Ln) (life : Int) (L : List Int) (n : Nat) (lost : Int) (r : Nat) (I : List Int) (j : Nat) : List (List Int) := if okX ls life L lost (I ++ [(j : Int)]) = true then plL (fun _ => n) (okX ls life L lost) r (I ++ [(j : Int)]) else []
theorem lk_succ (ls : List Ln) (life : Int) (L : List Int) (n : Nat) (pl : List Int) (lost : Int) (r : Nat) (I : List Int) (st : Bs) : lkS ls life L n pl lost (r + 1) I st = stF (dL pl L) st (plF (lkF ls life L n lost r I) n 0) := rfl
theorem plF_snoc' (f : Nat → List (List Int)) : ∀ d j, plF f (d + 1) j = plF f d j ++ f (j + d)
  | 0, j => by simp [plF]
  | d + 1, j => by
    have := plF_snoc' f d (j + 1)
    rw [plF, this]
    simp only [plF]
    rw [List.append_assoc, show j + 1 + d = j + (d + 1) by omega]
theorem lk_step (ls : List Ln) (life : Int) (L : List Int) (n : Nat) (pl : List Int) (lost : Int) (r : Nat) (I : List Int) (st : Bs) (j : Nat) : stF (dL pl L) st (plF (lkF ls life L n lost r I) (j + 1) 0) = if okX ls life L lost (I ++ [(j : Int)]) = true then lkS ls life L n pl lost r (I ++ [(j : Int)]) (stF (dL pl L) st (plF (lkF ls life L n lost r I) j 0)) else stF (dL pl L) st (plF (lkF ls life L n lost r I) j 0) := by
  rw [plF_snoc', stF_app, Nat.zero_add]
  have hf : lkF ls life L n lost r I j = if okX ls life L lost (I ++ [(j : Int)]) = true then plL (fun _ => n) (okX ls life L lost) r (I ++ [(j : Int)]) else [] := rfl
  rw [hf]
  split
  · rfl
  · rfl
theorem stF_ne {D : List Int → Int} {l : List (List Int)} {st : Bs} (hs : ∀ J d, st = some (J, d) → J ≠ []) (hl : ∀ x ∈ l, x ≠ []) : ∀ J d, stF D st l = some (J, d) → J ≠ [] := by
  induction l generalizing st with
  | nil => exact hs
  | cons a l ih =>
    refine ih (st := betB st a (D a)) ?_ (fun x hx => hl x (by simp [hx]))
    intro J d hJ
    unfold betB at hJ
    split at hJ
    · cases hJ; exact hl a (by simp)
    · split at hJ
      · cases hJ; exact hl a (by simp)
      · cases hJ; exact hs _ _ rfl
theorem okX_snoc (ls : List Ln) (life : Int) (L : List Int) (lost : Int) (I : List Int) (x : Int) : okX ls life L lost (I ++ [x]) = (okK ls life L (I ++ [x]) && !decide (x = lost)) := by
  unfold okX
  rw [show (I ++ [x]).length - 1 = I.length by simp, getD_last]
def LkQ (F : Mem) (N : Nat) (ks : List St) (ls : List Ln) (e0 e4 : Ent) (life : Int) (L : List Int) (n : Nat) (I : List Int) (pl : List Int) (lost : Int) (st : Bs) (x : AV) (m' : Mem) : Prop :=
  ∃ vi' T' H', T'.map (·.2) = tO L n I ∧ m' = F ++ blk N ks ls e0 e4 life L vi' I (wO ls L n I) T' (repE N pl lost st :: H')
theorem blk_last {F : Mem} {N : Nat} (hF : F.length = N) {ks : List St} {ls : List Ln} {e0 e4 : Ent} {life : Int} {L I W : List Int} {vi : Nat} {T : List (Nat × List Int)} {n : Nat} (hT : T.length = n) {r : Ent} {H : Mem} (x r' : Ent) : (F ++ blk N ks ls e0 e4 life L vi I W T (r :: H) ++ [x]).set (N + (7 + n)) r' = F ++ blk N ks ls e0 e4 life L vi I W T (r' :: (H ++ [x])) := by
  have hTm : (T.map lentE).length = n := by simpa using hT
  rw [List.append_assoc, setF hF]
  have e : blk N ks ls e0 e4 life L vi I W T (r :: H) ++ [x] = blk N ks ls e0 e4 life L vi I W T (r :: (H ++ [x])) := by simp [blk]
  rw [e, set7, setF0 hTm]
  rfl
end Go.Proofs.Try
