/- A part of the proof of PuzzlesSheets: contracts of functions, with plain laws that they need. -/
import Derived.Test.YtgoclpdoejhohaaVgS2J
set_option linter.all false
set_option maxHeartbeats 8000000
namespace Go.Proofs.Try
open Go.Vg

/-! the document's see -/
def tn (U : List ByteArray) : Nat → List ByteArray
  | 0 => U
  | k + 1 => turnU (tn U k)
theorem rowsT_getD (U : List ByteArray) {k j : Nat} (h : j < k) : (rowsT U k).getD j .empty = rowT U j := by
  simp [rowsT, h]
theorem turnU_sh {U : List ByteArray} (h : Sh U) : Sh (turnU U) := by
  have hl : (turnU U).length = w0 U := rowsT_len _ _
  have hg : ∀ j, j < w0 U → ((turnU U).getD j .empty).size = U.length := fun j hj => by
    unfold turnU; rw [rowsT_getD U hj, rowT_size]
  have h0 : w0 (turnU U) = U.length := hg 0 (by have := h.wid; omega)
  refine ⟨by rw [hl]; exact h.wid, by rw [h0]; exact h.len, fun j hj => ?_⟩
  rw [hl] at hj
  rw [h0]; exact hg j hj
theorem tn_sh {U : List ByteArray} (h : Sh U) : ∀ k, Sh (tn U k)
  | 0 => h
  | k + 1 => turnU_sh (tn_sh h k)
def dB (V L : List ByteArray) (x y : Int) (r c : Nat) : Bool := ((inB ((r : Int) - y) V.length && inB ((c : Int) - x) (w0 V)) && isH (seenB V ((r : Int) - y) ((c : Int) - x))) && !isH (bt (L.getD r .empty) c)
def dC (V L : List ByteArray) (x y : Int) (r c : Nat) : List UInt8 := if dB V L x y r c = true then [bt (L.getD r .empty) c] else []
def dW (V L : List ByteArray) (x y : Int) (r k : Nat) : List UInt8 := (List.range k).flatMap (dC V L x y r)
def dU (V L : List ByteArray) (x y : Int) (k : Nat) : List UInt8 := (List.range k).flatMap fun r => dW V L x y r (w0 L)
theorem dW_snoc (U L : List ByteArray) (x y : Int) (r k : Nat) : dW U L x y r (k + 1) = dW U L x y r k ++ dC U L x y r k := by
  unfold dW; rw [List.range_succ, List.flatMap_append]; simp
theorem dU_snoc (U L : List ByteArray) (x y : Int) (k : Nat) : dU U L x y (k + 1) = dU U L x y k ++ dW U L x y k (w0 L) := by
  unfold dU; rw [List.range_succ, List.flatMap_append]; simp
theorem dC_len (U L : List ByteArray) (x y : Int) (r c : Nat) : (dC U L x y r c).length ≤ 1 := by
  unfold dC; split <;> simp
theorem mkB_size (l : List UInt8) : (⟨l.toArray⟩ : ByteArray).size = l.length := by
  show l.toArray.size = _
  rw [List.size_toArray]
theorem rsee_pure (U L : List ByteArray) (tu : Nat) (x y : Int) (hU : Sh U) (hL : Sh L) (htu : tu ≤ 3) (hx : -8 ≤ x ∧ x ≤ 8) (hy : -8 ≤ y ∧ y ≤ 8) :
    Pure Try.prog 15 [.strs U, .strs L, .agg [.int tu, .int x, .int y]] (.str ⟨(dU (tn U tu) L x y L.length).toArray⟩) := by
  have hL' := hL
  obtain ⟨hll, hlw, hlr⟩ := hL'
  (refine Spec.of_body Try.func15 rfl (by rw [Try.ntmps15]; simp) 0 (by simp) ?_; rw [Try.results15, Try.ntmps15]; simp only [entry, zipArgs, Nat.reduceAdd])
  repeat (first | apply Wp.seq | apply Wp.block | (apply Run.next; (simp only [push_cast, seval, List.length_map] <;> (try simp (disch := omega) only [wI, wU, wC]) <;> exact rfl); (focus ((try simp only [push_cast, seval, List.length_map]) <;> exact sT))) | ((first | apply Run.nil | apply Wp.skip); dsimp only [sQ, tQ, bQ]) | (apply Wp.run; (dsimp only [List.map] <;> exact rfl); exact rfl) | (apply Wp.exit; dsimp only [sQ, tQ, bQ]; simp only [reduceIte]))
  refine Wp.loop (fun k : Nat => { t := [(0, .strs (tn U k)), (1, .strs L), (5, .optr 0 0 0 0), (7, .int k)], m := [⟨0, .row 3 [.agg [.int tu, .int x, .int y]]⟩], n := 86 }) (fun k => k ≤ tu) (fun k => tu - k) 0 ?_ ?_ ?_
  · (refine Le.of ?_ ?_ rfl rfl <;> (try simp only [push_cast, seval, List.length_map]) <;> (try (with_reducible rfl)))
    all_goals rfl
  · omega
  · intro k hk
    by_cases hkb : k < tu
    · have e1 : decide ((k : Int) < (tu : Int)) = true := decide_eq_true (by omega)
      have hq := quarter_pure (tn U k) (tn_sh hU k)
      repeat (first | apply Wp.seq | apply Wp.block | (apply Run.next; (simp only [push_cast, seval, List.length_map, e1] <;> (try simp (disch := omega) only [wI, wU, wC]) <;> exact rfl); (focus ((try simp only [push_cast, seval, List.length_map, e1]) <;> exact sT))) | ((first | apply Run.nil | apply Wp.skip); dsimp only [sQ, tQ, bQ]) | (apply Wp.run; (dsimp only [List.map] <;> exact rfl); exact rfl) | (apply Wp.exit; dsimp only [sQ, tQ, bQ]; simp only [reduceIte]) | (apply Run.gtrue; (simp only [push_cast, seval, List.length_map, e1] <;> (try simp (disch := omega) only [wI, wU, wC]) <;> exact rfl); (simp only [push_cast, seval, List.length_map, e1] <;> (try simp (disch := omega) only [wI, wU, wC]) <;> exact rfl)) | (apply Run.gfalse (.bool false); (simp only [push_cast, seval, List.length_map, e1] <;> (try simp (disch := omega) only [wI, wU, wC]) <;> exact rfl); dsimp only [S.put, optG]) | (apply Wp.condT; (simp only [push_cast, seval, List.length_map, e1] <;> (try simp (disch := omega) only [wI, wU, wC]) <;> exact rfl)) | (apply Wp.condF; (simp only [push_cast, seval, List.length_map, e1] <;> (try simp (disch := omega) only [wI, wU, wC]) <;> exact rfl)))
      (apply Run.pureFP; (simp only [push_cast, seval, List.length_map, e1] <;> (try simp (disch := omega) only [wI, wU, wC]) <;> exact rfl); (exact (Enters.of Try.func27 rfl rfl)); (exact hq); (focus (simp only [push_cast, seval, List.length_map, e1] <;> first | trivial | assumption | (refine ⟨?_, ?_⟩ <;> assumption) | (simp; done))); (try dsimp only [putA, optG]))
      repeat (first | apply Wp.seq | apply Wp.block | (apply Run.next; (simp only [push_cast, seval, List.length_map, e1] <;> (try simp (disch := omega) only [wI, wU, wC]) <;> exact rfl); (focus ((try simp only [push_cast, seval, List.length_map, e1]) <;> exact sT))) | ((first | apply Run.nil | apply Wp.skip); dsimp only [sQ, tQ, bQ]) | (apply Wp.run; (dsimp only [List.map] <;> exact rfl); exact rfl) | (apply Wp.exit; dsimp only [sQ, tQ, bQ]; simp only [reduceIte]) | (apply Run.gtrue; (simp only [push_cast, seval, List.length_map, e1] <;> (try simp (disch := omega) only [wI, wU, wC]) <;> exact rfl); (simp only [push_cast, seval, List.length_map, e1] <;> (try simp (disch := omega) only [wI, wU, wC]) <;> exact rfl)) | (apply Run.gfalse (.bool false); (simp only [push_cast, seval, List.length_map, e1] <;> (try simp (disch := omega) only [wI, wU, wC]) <;> exact rfl); dsimp only [S.put, optG]) | (apply Wp.condT; (simp only [push_cast, seval, List.length_map, e1] <;> (try simp (disch := omega) only [wI, wU, wC]) <;> exact rfl)) | (apply Wp.condF; (simp only [push_cast, seval, List.length_map, e1] <;> (try simp (disch := omega) only [wI, wU, wC]) <;> exact rfl)))
      refine ⟨k + 1, ?_, by omega, by omega⟩
      rw [show tn U (k + 1) = turnU (tn U k) from rfl]
      (refine Le.of ?_ ?_ rfl rfl <;> (try simp only [push_cast, seval, List.length_map, e1]) <;> (try (with_reducible rfl)))
    · obtain rfl : k = tu := by omega
      have e1 : decide ((k : Int) < (k : Int)) = false := decide_eq_false (by omega)
      obtain ⟨hvl, hvw, hvr⟩ := tn_sh hU k
      generalize tn U k = V at hvl hvw hvr
      repeat (first | apply Wp.seq | apply Wp.block | (apply Run.next; (simp only [push_cast, seval, List.length_map, e1] <;> (try simp (disch := omega) only [wI, wU, wC]) <;> exact rfl); (focus ((try simp only [push_cast, seval, List.length_map, e1]) <;> exact sT))) | ((first | apply Run.nil | apply Wp.skip); dsimp only [sQ, tQ, bQ]) | (apply Wp.run; (dsimp only [List.map] <;> exact rfl); exact rfl) | (apply Wp.exit; dsimp only [sQ, tQ, bQ]; simp only [reduceIte]) | (apply Run.gtrue; (simp only [push_cast, seval, List.length_map, e1] <;> (try simp (disch := omega) only [wI, wU, wC]) <;> exact rfl); (simp only [push_cast, seval, List.length_map, e1] <;> (try simp (disch := omega) only [wI, wU, wC]) <;> exact rfl)) | (apply Run.gfalse (.bool false); (simp only [push_cast, seval, List.length_map, e1] <;> (try simp (disch := omega) only [wI, wU, wC]) <;> exact rfl); dsimp only [S.put, optG]) | (apply Wp.condT; (simp only [push_cast, seval, List.length_map, e1] <;> (try simp (disch := omega) only [wI, wU, wC]) <;> exact rfl)) | (apply Wp.condF; (simp only [push_cast, seval, List.length_map, e1] <;> (try simp (disch := omega) only [wI, wU, wC]) <;> exact rfl)))
      refine Wp.loop (fun r : Nat => { t := [(0, .strs V), (1, .strs L), (5, .optr 0 0 0 0), (8, .str ⟨(dU V L x y r).toArray⟩), (9, .int r)], m := [⟨0, .row 3 [.agg [.int k, .int x, .int y]]⟩], n := 86 }) (fun r => r ≤ L.length ∧ (dU V L x y r).length ≤ 8 * r) (fun r => L.length - r) 0 ?_ ?_ ?_
      · (refine Le.of ?_ ?_ rfl rfl <;> (try simp only [push_cast, seval, List.length_map, e1]) <;> (try (with_reducible rfl)))
        all_goals rfl
      · simp [dU]
      · rintro r ⟨hr, hlen⟩
        have hsn := dU_snoc V L x y r
        by_cases hrb : r < L.length
        · have e2 : decide ((r : Int) < (L.length : Int)) = true := decide_eq_true (by omega)
          have hrw := hlr r hrb
          generalize hG : dU V L x y r = G at hlen hsn
          have hWn : (L.getD 0 .empty).size = w0 L := rfl
          have hVn : (V.getD 0 .empty).size = w0 V := rfl
          have hH : ∀ c, dC V L x y r c = if (((inB ((r : Int) - y) V.length && inB ((c : Int) - x) (w0 V)) && isH (seenB V ((r : Int) - y) ((c : Int) - x))) && !isH (bt (L.getD r .empty) c)) = true then [bt (L.getD r .empty) c] else [] := fun _ => rfl
          generalize hW : w0 L = W at hlw hlr hWn hrw hsn
          generalize hVw : w0 V = VW at hvw hvr hVn hH
          generalize hx0 : L.getD r .empty = x0 at hrw hH
          have hat := byteAtB x0
          have hcat0 := fun l k h => strCat l x0 k h
          repeat (first | apply Wp.seq | apply Wp.block | (apply Run.next; (simp only [push_cast, seval, List.length_map, e2] <;> (try simp (disch := omega) only [wI, wU, wC]) <;> exact rfl); (focus ((try simp only [push_cast, seval, List.length_map, e2]) <;> exact sT))) | ((first | apply Run.nil | apply Wp.skip); dsimp only [sQ, tQ, bQ]) | (apply Wp.run; (dsimp only [List.map] <;> exact rfl); exact rfl) | (apply Wp.exit; dsimp only [sQ, tQ, bQ]; simp only [reduceIte]) | (apply Run.gtrue; (simp only [push_cast, seval, List.length_map, e2] <;> (try simp (disch := omega) only [wI, wU, wC]) <;> exact rfl); (simp only [push_cast, seval, List.length_map, e2] <;> (try simp (disch := omega) only [wI, wU, wC]) <;> exact rfl)) | (apply Run.gfalse (.bool false); (simp only [push_cast, seval, List.length_map, e2] <;> (try simp (disch := omega) only [wI, wU, wC]) <;> exact rfl); dsimp only [S.put, optG]) | (apply Wp.condT; (simp only [push_cast, seval, List.length_map, e2] <;> (try simp (disch := omega) only [wI, wU, wC]) <;> exact rfl)) | (apply Wp.condF; (simp only [push_cast, seval, List.length_map, e2] <;> (try simp (disch := omega) only [wI, wU, wC]) <;> exact rfl)))
          refine Wp.loop (fun c : Nat => { t := [(0, .strs V), (1, .strs L), (5, .optr 0 0 0 0), (8, .str ⟨(G ++ dW V L x y r c).toArray⟩), (9, .int r), (10, .int c)], m := [⟨0, .row 3 [.agg [.int k, .int x, .int y]]⟩], n := 86 }) (fun c => c ≤ W ∧ (G ++ dW V L x y r c).length ≤ 8 * r + c) (fun c => W - c) 0 ?_ ?_ ?_
          · have hz : G ++ dW V L x y r 0 = G := by simp [dW]
            rw [hz]
            (refine Le.of ?_ ?_ rfl rfl <;> (try simp only [push_cast, seval, List.length_map, e2]) <;> (try (with_reducible rfl)))
            all_goals rfl
          · exact ⟨Nat.zero_le _, by simpa [dW] using hlen⟩
          · rintro c ⟨hc, hlen⟩
            by_cases hcb : c < W
            · have e3 : decide ((c : Int) < (W : Int)) = true := decide_eq_true (by omega)
              have hwn := dW_snoc V L x y r c
              have hcl := dC_len V L x y r c
              have hHc := hH c
              have hac := hat c
              have hcat := hcat0 (G ++ dW V L x y r c) c (by omega)
              have hEs : (x0.extract c (c + 1)).size ≤ 1 := by rw [ByteArray.size_extract]; omega
              have hAs := mkB_size (G ++ dW V L x y r c)
              have key : c + 1 ≤ W ∧ (G ++ dW V L x y r (c + 1)).length ≤ 8 * r + (c + 1) := by
                refine ⟨by omega, ?_⟩
                rw [hwn, ← List.append_assoc, List.length_append]; omega
              generalize bt x0 c = ch at hHc hac hcat
              have hno : dC V L x y r c = [] → (⟨(G ++ dW V L x y r (c + 1)).toArray⟩ : ByteArray) = ⟨(G ++ dW V L x y r c).toArray⟩ := by
                intro h; rw [hwn, h, List.append_nil]
              have hyes : dC V L x y r c = [ch] → (⟨(G ++ dW V L x y r (c + 1)).toArray⟩ : ByteArray) = ⟨(G ++ dW V L x y r c).toArray⟩ ++ x0.extract c (c + 1) := by
                intro h; rw [hcat, hwn, h, List.append_assoc]
              have hAz : (⟨(G ++ dW V L x y r c).toArray⟩ : ByteArray).size ≤ 1000 := by rw [hAs]; omega
              clear hcat hAs
              generalize (⟨(G ++ dW V L x y r c).toArray⟩ : ByteArray) = AA at hAz hno hyes
              generalize hEE : x0.extract c (c + 1) = EE at hyes hEs
              have hy1 := refWithin_pure ((r : Int) - y) 0 ((V.length : Int) - 1)
              have hx1 := refWithin_pure ((c : Int) - x) 0 ((VW : Int) - 1)
              have ein : ∀ (v : Int) (n : Nat), (decide (0 ≤ v) && decide (v ≤ (n : Int) - 1)) = inB v n := fun _ _ => rfl
              rw [ein] at hy1 hx1
              cases hiy : inB ((r : Int) - y) V.length with
              | false =>
                rw [hiy] at hy1
                have hdc := hno (by rw [hHc, hiy]; rfl)
                repeat (first | apply Wp.seq | apply Wp.block | (apply Run.next; (simp only [push_cast, seval, List.length_map, e2, e3, hWn] <;> (try simp (disch := omega) only [wI, wU, wC]) <;> exact rfl); (focus ((try simp only [push_cast, seval, List.length_map, e2, e3, hWn]) <;> exact sT))) | ((first | apply Run.nil | apply Wp.skip); dsimp only [sQ, tQ, bQ]) | (apply Wp.run; (dsimp only [List.map] <;> exact rfl); exact rfl) | (apply Wp.exit; dsimp only [sQ, tQ, bQ]; simp only [reduceIte]) | (apply Run.gtrue; (simp only [push_cast, seval, List.length_map, e2, e3, hWn] <;> (try simp (disch := omega) only [wI, wU, wC]) <;> exact rfl); (simp only [push_cast, seval, List.length_map, e2, e3, hWn] <;> (try simp (disch := omega) only [wI, wU, wC]) <;> exact rfl)) | (apply Run.gfalse (.bool false); (simp only [push_cast, seval, List.length_map, e2, e3, hWn] <;> (try simp (disch := omega) only [wI, wU, wC]) <;> exact rfl); dsimp only [S.put, optG]) | (apply Wp.condT; (simp only [push_cast, seval, List.length_map, e2, e3, hWn] <;> (try simp (disch := omega) only [wI, wU, wC]) <;> exact rfl)) | (apply Wp.condF; (simp only [push_cast, seval, List.length_map, e2, e3, hWn] <;> (try simp (disch := omega) only [wI, wU, wC]) <;> exact rfl)))
                (apply Wp.runD 10 mixed; (dsimp only [List.map] <;> exact rfl); exact rfl; kernel_rfl; (dsimp only [List.take] <;> exact rfl); (dsimp only [List.drop] <;> exact rfl); (((repeat (apply Abn.next; (simp only [push_cast, seval, List.length_map, e2, e3, hWn] <;> (try simp (disch := omega) only [wI, wU, wC]) <;> exact rfl); (focus ((try simp only [push_cast, seval, List.length_map, e2, e3, hWn]) <;> exact sT))))); exact Abn.nil))
                repeat (first | apply Wp.seq | apply Wp.block | (apply Run.next; (simp only [push_cast, seval, List.length_map, e2, e3, hWn] <;> (try simp (disch := omega) only [wI, wU, wC]) <;> exact rfl); (focus ((try simp only [push_cast, seval, List.length_map, e2, e3, hWn]) <;> exact sT))) | ((first | apply Run.nil | apply Wp.skip); dsimp only [sQ, tQ, bQ]) | (apply Wp.run; (dsimp only [List.map] <;> exact rfl); exact rfl) | (apply Wp.exit; dsimp only [sQ, tQ, bQ]; simp only [reduceIte]) | (apply Run.gtrue; (simp only [push_cast, seval, List.length_map, e2, e3, hWn] <;> (try simp (disch := omega) only [wI, wU, wC]) <;> exact rfl); (simp only [push_cast, seval, List.length_map, e2, e3, hWn] <;> (try simp (disch := omega) only [wI, wU, wC]) <;> exact rfl)) | (apply Run.gfalse (.bool false); (simp only [push_cast, seval, List.length_map, e2, e3, hWn] <;> (try simp (disch := omega) only [wI, wU, wC]) <;> exact rfl); dsimp only [S.put, optG]) | (apply Wp.condT; (simp only [push_cast, seval, List.length_map, e2, e3, hWn] <;> (try simp (disch := omega) only [wI, wU, wC]) <;> exact rfl)) | (apply Wp.condF; (simp only [push_cast, seval, List.length_map, e2, e3, hWn] <;> (try simp (disch := omega) only [wI, wU, wC]) <;> exact rfl)))
                (apply Run.pureP; (simp only [push_cast, seval, List.length_map, e2, e3, hWn] <;> (try simp (disch := omega) only [wI, wU, wC]) <;> exact rfl); (exact (Enters.of Try.func14 rfl rfl)); (exact hy1); (focus (simp only [push_cast, seval, List.length_map, e2, e3, hWn] <;> first | trivial | assumption | (refine ⟨?_, ?_⟩ <;> assumption) | (simp; done))); (try dsimp only [putA, optG]))
                repeat (first | apply Wp.seq | apply Wp.block | (apply Run.next; (simp only [push_cast, seval, List.length_map, e2, e3, hWn] <;> (try simp (disch := omega) only [wI, wU, wC]) <;> exact rfl); (focus ((try simp only [push_cast, seval, List.length_map, e2, e3, hWn]) <;> exact sT))) | ((first | apply Run.nil | apply Wp.skip); dsimp only [sQ, tQ, bQ]) | (apply Wp.run; (dsimp only [List.map] <;> exact rfl); exact rfl) | (apply Wp.exit; dsimp only [sQ, tQ, bQ]; simp only [reduceIte]) | (apply Run.gtrue; (simp only [push_cast, seval, List.length_map, e2, e3, hWn] <;> (try simp (disch := omega) only [wI, wU, wC]) <;> exact rfl); (simp only [push_cast, seval, List.length_map, e2, e3, hWn] <;> (try simp (disch := omega) only [wI, wU, wC]) <;> exact rfl)) | (apply Run.gfalse (.bool false); (simp only [push_cast, seval, List.length_map, e2, e3, hWn] <;> (try simp (disch := omega) only [wI, wU, wC]) <;> exact rfl); dsimp only [S.put, optG]) | (apply Wp.condT; (simp only [push_cast, seval, List.length_map, e2, e3, hWn] <;> (try simp (disch := omega) only [wI, wU, wC]) <;> exact rfl)) | (apply Wp.condF; (simp only [push_cast, seval, List.length_map, e2, e3, hWn] <;> (try simp (disch := omega) only [wI, wU, wC]) <;> exact rfl)))
                refine ⟨c + 1, ?_, key, by omega⟩
                rw [hdc]
                (refine Le.of ?_ ?_ rfl rfl <;> (try simp only [push_cast, seval, List.length_map, e2, e3, hWn]) <;> (try (with_reducible rfl)))
              | true =>
                rw [hiy] at hy1
                cases hix : inB ((c : Int) - x) VW with
                | false =>
                  rw [hix] at hx1
                  have hdc := hno (by rw [hHc, hiy, hix]; rfl)
                  repeat (first | apply Wp.seq | apply Wp.block | (apply Run.next; (simp only [push_cast, seval, List.length_map, e2, e3, hWn, hVn] <;> (try simp (disch := omega) only [wI, wU, wC]) <;> exact rfl); (focus ((try simp only [push_cast, seval, List.length_map, e2, e3, hWn, hVn]) <;> exact sT))) | ((first | apply Run.nil | apply Wp.skip); dsimp only [sQ, tQ, bQ]) | (apply Wp.run; (dsimp only [List.map] <;> exact rfl); exact rfl) | (apply Wp.exit; dsimp only [sQ, tQ, bQ]; simp only [reduceIte]) | (apply Run.gtrue; (simp only [push_cast, seval, List.length_map, e2, e3, hWn, hVn] <;> (try simp (disch := omega) only [wI, wU, wC]) <;> exact rfl); (simp only [push_cast, seval, List.length_map, e2, e3, hWn, hVn] <;> (try simp (disch := omega) only [wI, wU, wC]) <;> exact rfl)) | (apply Run.gfalse (.bool false); (simp only [push_cast, seval, List.length_map, e2, e3, hWn, hVn] <;> (try simp (disch := omega) only [wI, wU, wC]) <;> exact rfl); dsimp only [S.put, optG]) | (apply Wp.condT; (simp only [push_cast, seval, List.length_map, e2, e3, hWn, hVn] <;> (try simp (disch := omega) only [wI, wU, wC]) <;> exact rfl)) | (apply Wp.condF; (simp only [push_cast, seval, List.length_map, e2, e3, hWn, hVn] <;> (try simp (disch := omega) only [wI, wU, wC]) <;> exact rfl)))
                  (apply Wp.runD 10 mixed; (dsimp only [List.map] <;> exact rfl); exact rfl; kernel_rfl; (dsimp only [List.take] <;> exact rfl); (dsimp only [List.drop] <;> exact rfl); (((repeat (apply Abn.next; (simp only [push_cast, seval, List.length_map, e2, e3, hWn, hVn] <;> (try simp (disch := omega) only [wI, wU, wC]) <;> exact rfl); (focus ((try simp only [push_cast, seval, List.length_map, e2, e3, hWn, hVn]) <;> exact sT))))); exact Abn.nil))
                  repeat (first | apply Wp.seq | apply Wp.block | (apply Run.next; (simp only [push_cast, seval, List.length_map, e2, e3, hWn, hVn] <;> (try simp (disch := omega) only [wI, wU, wC]) <;> exact rfl); (focus ((try simp only [push_cast, seval, List.length_map, e2, e3, hWn, hVn]) <;> exact sT))) | ((first | apply Run.nil | apply Wp.skip); dsimp only [sQ, tQ, bQ]) | (apply Wp.run; (dsimp only [List.map] <;> exact rfl); exact rfl) | (apply Wp.exit; dsimp only [sQ, tQ, bQ]; simp only [reduceIte]) | (apply Run.gtrue; (simp only [push_cast, seval, List.length_map, e2, e3, hWn, hVn] <;> (try simp (disch := omega) only [wI, wU, wC]) <;> exact rfl); (simp only [push_cast, seval, List.length_map, e2, e3, hWn, hVn] <;> (try simp (disch := omega) only [wI, wU, wC]) <;> exact rfl)) | (apply Run.gfalse (.bool false); (simp only [push_cast, seval, List.length_map, e2, e3, hWn, hVn] <;> (try simp (disch := omega) only [wI, wU, wC]) <;> exact rfl); dsimp only [S.put, optG]) | (apply Wp.condT; (simp only [push_cast, seval, List.length_map, e2, e3, hWn, hVn] <;> (try simp (disch := omega) only [wI, wU, wC]) <;> exact rfl)) | (apply Wp.condF; (simp only [push_cast, seval, List.length_map, e2, e3, hWn, hVn] <;> (try simp (disch := omega) only [wI, wU, wC]) <;> exact rfl)))
                  (apply Run.pureP; (simp only [push_cast, seval, List.length_map, e2, e3, hWn, hVn] <;> (try simp (disch := omega) only [wI, wU, wC]) <;> exact rfl); (exact (Enters.of Try.func14 rfl rfl)); (exact hy1); (focus (simp only [push_cast, seval, List.length_map, e2, e3, hWn, hVn] <;> first | trivial | assumption | (refine ⟨?_, ?_⟩ <;> assumption) | (simp; done))); (try dsimp only [putA, optG]))
                  repeat (first | apply Wp.seq | apply Wp.block | (apply Run.next; (simp only [push_cast, seval, List.length_map, e2, e3, hWn, hVn] <;> (try simp (disch := omega) only [wI, wU, wC]) <;> exact rfl); (focus ((try simp only [push_cast, seval, List.length_map, e2, e3, hWn, hVn]) <;> exact sT))) | ((first | apply Run.nil | apply Wp.skip); dsimp only [sQ, tQ, bQ]) | (apply Wp.run; (dsimp only [List.map] <;> exact rfl); exact rfl) | (apply Wp.exit; dsimp only [sQ, tQ, bQ]; simp only [reduceIte]) | (apply Run.gtrue; (simp only [push_cast, seval, List.length_map, e2, e3, hWn, hVn] <;> (try simp (disch := omega) only [wI, wU, wC]) <;> exact rfl); (simp only [push_cast, seval, List.length_map, e2, e3, hWn, hVn] <;> (try simp (disch := omega) only [wI, wU, wC]) <;> exact rfl)) | (apply Run.gfalse (.bool false); (simp only [push_cast, seval, List.length_map, e2, e3, hWn, hVn] <;> (try simp (disch := omega) only [wI, wU, wC]) <;> exact rfl); dsimp only [S.put, optG]) | (apply Wp.condT; (simp only [push_cast, seval, List.length_map, e2, e3, hWn, hVn] <;> (try simp (disch := omega) only [wI, wU, wC]) <;> exact rfl)) | (apply Wp.condF; (simp only [push_cast, seval, List.length_map, e2, e3, hWn, hVn] <;> (try simp (disch := omega) only [wI, wU, wC]) <;> exact rfl)))
                  (apply Run.pureP; (simp only [push_cast, seval, List.length_map, e2, e3, hWn, hVn] <;> (try simp (disch := omega) only [wI, wU, wC]) <;> exact rfl); (exact (Enters.of Try.func14 rfl rfl)); (exact hx1); (focus (simp only [push_cast, seval, List.length_map, e2, e3, hWn, hVn] <;> first | trivial | assumption | (refine ⟨?_, ?_⟩ <;> assumption) | (simp; done))); (try dsimp only [putA, optG]))
                  repeat (first | apply Wp.seq | apply Wp.block | (apply Run.next; (simp only [push_cast, seval, List.length_map, e2, e3, hWn, hVn] <;> (try simp (disch := omega) only [wI, wU, wC]) <;> exact rfl); (focus ((try simp only [push_cast, seval, List.length_map, e2, e3, hWn, hVn]) <;> exact sT))) | ((first | apply Run.nil | apply Wp.skip); dsimp only [sQ, tQ, bQ]) | (apply Wp.run; (dsimp only [List.map] <;> exact rfl); exact rfl) | (apply Wp.exit; dsimp only [sQ, tQ, bQ]; simp only [reduceIte]) | (apply Run.gtrue; (simp only [push_cast, seval, List.length_map, e2, e3, hWn, hVn] <;> (try simp (disch := omega) only [wI, wU, wC]) <;> exact rfl); (simp only [push_cast, seval, List.length_map, e2, e3, hWn, hVn] <;> (try simp (disch := omega) only [wI, wU, wC]) <;> exact rfl)) | (apply Run.gfalse (.bool false); (simp only [push_cast, seval, List.length_map, e2, e3, hWn, hVn] <;> (try simp (disch := omega) only [wI, wU, wC]) <;> exact rfl); dsimp only [S.put, optG]) | (apply Wp.condT; (simp only [push_cast, seval, List.length_map, e2, e3, hWn, hVn] <;> (try simp (disch := omega) only [wI, wU, wC]) <;> exact rfl)) | (apply Wp.condF; (simp only [push_cast, seval, List.length_map, e2, e3, hWn, hVn] <;> (try simp (disch := omega) only [wI, wU, wC]) <;> exact rfl)))
                  refine ⟨c + 1, ?_, key, by omega⟩
                  rw [hdc]
                  (refine Le.of ?_ ?_ rfl rfl <;> (try simp only [push_cast, seval, List.length_map, e2, e3, hWn, hVn]) <;> (try (with_reducible rfl)))
                | true =>
                  rw [hix] at hx1
                  rw [hiy, hix, Bool.true_and, Bool.true_and] at hHc
                  simp only [inB, Bool.and_eq_true, decide_eq_true_eq] at hiy hix
                  obtain ⟨j, hj⟩ : ∃ j : Nat, (r : Int) - y = (j : Int) := ⟨((r : Int) - y).toNat, by omega⟩
                  obtain ⟨i, hi⟩ : ∃ i : Nat, (c : Int) - x = (i : Int) := ⟨((c : Int) - x).toNat, by omega⟩
                  rw [hj] at hiy hHc hy1
                  rw [hi] at hix hHc hx1
                  have hjV := hvr j (by omega)
                  have hst : seenB V (j : Int) (i : Int) = bt (V.getD j .empty) i := by unfold seenB; rw [Int.toNat_natCast, Int.toNat_natCast]
                  rw [hst] at hHc
                  generalize hVj : V.getD j .empty = vj at hHc hjV
                  have hai := byteAtB vj i
                  generalize bt vj i = s at hHc hai
                  have hjlt : j < V.length := by omega
                  have hilt : i < vj.size := by omega
                  cases hs : isH s with
                  | false =>
                    have hs46 : decide ((s.toNat : Int) = 46) = false := hs
                    have hdc := hno (by rw [hHc, hs]; rfl)
                    repeat (first | apply Wp.seq | apply Wp.block | (apply Run.next; (simp only [push_cast, seval, List.length_map, e2, e3, hWn, hVn, hj, hi, hVj, hai, hs46] <;> (try simp (disch := omega) only [wI, wU, wC]) <;> exact rfl); (focus ((try simp only [push_cast, seval, List.length_map, e2, e3, hWn, hVn, hj, hi, hVj, hai, hs46]) <;> exact sT))) | ((first | apply Run.nil | apply Wp.skip); dsimp only [sQ, tQ, bQ]) | (apply Wp.run; (dsimp only [List.map] <;> exact rfl); exact rfl) | (apply Wp.exit; dsimp only [sQ, tQ, bQ]; simp only [reduceIte]) | (apply Run.gtrue; (simp only [push_cast, seval, List.length_map, e2, e3, hWn, hVn, hj, hi, hVj, hai, hs46] <;> (try simp (disch := omega) only [wI, wU, wC]) <;> exact rfl); (simp only [push_cast, seval, List.length_map, e2, e3, hWn, hVn, hj, hi, hVj, hai, hs46] <;> (try simp (disch := omega) only [wI, wU, wC]) <;> exact rfl)) | (apply Run.gfalse (.bool false); (simp only [push_cast, seval, List.length_map, e2, e3, hWn, hVn, hj, hi, hVj, hai, hs46] <;> (try simp (disch := omega) only [wI, wU, wC]) <;> exact rfl); dsimp only [S.put, optG]) | (apply Wp.condT; (simp only [push_cast, seval, List.length_map, e2, e3, hWn, hVn, hj, hi, hVj, hai, hs46] <;> (try simp (disch := omega) only [wI, wU, wC]) <;> exact rfl)) | (apply Wp.condF; (simp only [push_cast, seval, List.length_map, e2, e3, hWn, hVn, hj, hi, hVj, hai, hs46] <;> (try simp (disch := omega) only [wI, wU, wC]) <;> exact rfl)))
                    (apply Wp.runD 10 mixed; (dsimp only [List.map] <;> exact rfl); exact rfl; kernel_rfl; (dsimp only [List.take] <;> exact rfl); (dsimp only [List.drop] <;> exact rfl); (((repeat (apply Abn.next; (simp only [push_cast, seval, List.length_map, e2, e3, hWn, hVn, hj, hi, hVj, hai, hs46] <;> (try simp (disch := omega) only [wI, wU, wC]) <;> exact rfl); (focus ((try simp only [push_cast, seval, List.length_map, e2, e3, hWn, hVn, hj, hi, hVj, hai, hs46]) <;> exact sT))))); exact Abn.nil))
                    repeat (first | apply Wp.seq | apply Wp.block | (apply Run.next; (simp only [push_cast, seval, List.length_map, e2, e3, hWn, hVn, hj, hi, hVj, hai, hs46] <;> (try simp (disch := omega) only [wI, wU, wC]) <;> exact rfl); (focus ((try simp only [push_cast, seval, List.length_map, e2, e3, hWn, hVn, hj, hi, hVj, hai, hs46]) <;> exact sT))) | ((first | apply Run.nil | apply Wp.skip); dsimp only [sQ, tQ, bQ]) | (apply Wp.run; (dsimp only [List.map] <;> exact rfl); exact rfl) | (apply Wp.exit; dsimp only [sQ, tQ, bQ]; simp only [reduceIte]) | (apply Run.gtrue; (simp only [push_cast, seval, List.length_map, e2, e3, hWn, hVn, hj, hi, hVj, hai, hs46] <;> (try simp (disch := omega) only [wI, wU, wC]) <;> exact rfl); (simp only [push_cast, seval, List.length_map, e2, e3, hWn, hVn, hj, hi, hVj, hai, hs46] <;> (try simp (disch := omega) only [wI, wU, wC]) <;> exact rfl)) | (apply Run.gfalse (.bool false); (simp only [push_cast, seval, List.length_map, e2, e3, hWn, hVn, hj, hi, hVj, hai, hs46] <;> (try simp (disch := omega) only [wI, wU, wC]) <;> exact rfl); dsimp only [S.put, optG]) | (apply Wp.condT; (simp only [push_cast, seval, List.length_map, e2, e3, hWn, hVn, hj, hi, hVj, hai, hs46] <;> (try simp (disch := omega) only [wI, wU, wC]) <;> exact rfl)) | (apply Wp.condF; (simp only [push_cast, seval, List.length_map, e2, e3, hWn, hVn, hj, hi, hVj, hai, hs46] <;> (try simp (disch := omega) only [wI, wU, wC]) <;> exact rfl)))
                    (apply Run.pureP; (simp only [push_cast, seval, List.length_map, e2, e3, hWn, hVn, hj, hi, hVj, hai, hs46] <;> (try simp (disch := omega) only [wI, wU, wC]) <;> exact rfl); (exact (Enters.of Try.func14 rfl rfl)); (exact hy1); (focus (simp only [push_cast, seval, List.length_map, e2, e3, hWn, hVn, hj, hi, hVj, hai, hs46] <;> first | trivial | assumption | (refine ⟨?_, ?_⟩ <;> assumption) | (simp; done))); (try dsimp only [putA, optG]))
                    repeat (first | apply Wp.seq | apply Wp.block | (apply Run.next; (simp only [push_cast, seval, List.length_map, e2, e3, hWn, hVn, hj, hi, hVj, hai, hs46] <;> (try simp (disch := omega) only [wI, wU, wC]) <;> exact rfl); (focus ((try simp only [push_cast, seval, List.length_map, e2, e3, hWn, hVn, hj, hi, hVj, hai, hs46]) <;> exact sT))) | ((first | apply Run.nil | apply Wp.skip); dsimp only [sQ, tQ, bQ]) | (apply Wp.run; (dsimp only [List.map] <;> exact rfl); exact rfl) | (apply Wp.exit; dsimp only [sQ, tQ, bQ]; simp only [reduceIte]) | (apply Run.gtrue; (simp only [push_cast, seval, List.length_map, e2, e3, hWn, hVn, hj, hi, hVj, hai, hs46] <;> (try simp (disch := omega) only [wI, wU, wC]) <;> exact rfl); (simp only [push_cast, seval, List.length_map, e2, e3, hWn, hVn, hj, hi, hVj, hai, hs46] <;> (try simp (disch := omega) only [wI, wU, wC]) <;> exact rfl)) | (apply Run.gfalse (.bool false); (simp only [push_cast, seval, List.length_map, e2, e3, hWn, hVn, hj, hi, hVj, hai, hs46] <;> (try simp (disch := omega) only [wI, wU, wC]) <;> exact rfl); dsimp only [S.put, optG]) | (apply Wp.condT; (simp only [push_cast, seval, List.length_map, e2, e3, hWn, hVn, hj, hi, hVj, hai, hs46] <;> (try simp (disch := omega) only [wI, wU, wC]) <;> exact rfl)) | (apply Wp.condF; (simp only [push_cast, seval, List.length_map, e2, e3, hWn, hVn, hj, hi, hVj, hai, hs46] <;> (try simp (disch := omega) only [wI, wU, wC]) <;> exact rfl)))
                    (apply Run.pureP; (simp only [push_cast, seval, List.length_map, e2, e3, hWn, hVn, hj, hi, hVj, hai, hs46] <;> (try simp (disch := omega) only [wI, wU, wC]) <;> exact rfl); (exact (Enters.of Try.func14 rfl rfl)); (exact hx1); (focus (simp only [push_cast, seval, List.length_map, e2, e3, hWn, hVn, hj, hi, hVj, hai, hs46] <;> first | trivial | assumption | (refine ⟨?_, ?_⟩ <;> assumption) | (simp; done))); (try dsimp only [putA, optG]))
                    repeat (first | apply Wp.seq | apply Wp.block | (apply Run.next; (simp only [push_cast, seval, List.length_map, e2, e3, hWn, hVn, hj, hi, hVj, hai, hs46] <;> (try simp (disch := omega) only [wI, wU, wC]) <;> exact rfl); (focus ((try simp only [push_cast, seval, List.length_map, e2, e3, hWn, hVn, hj, hi, hVj, hai, hs46]) <;> exact sT))) | ((first | apply Run.nil | apply Wp.skip); dsimp only [sQ, tQ, bQ]) | (apply Wp.run; (dsimp only [List.map] <;> exact rfl); exact rfl) | (apply Wp.exit; dsimp only [sQ, tQ, bQ]; simp only [reduceIte]) | (apply Run.gtrue; (simp only [push_cast, seval, List.length_map, e2, e3, hWn, hVn, hj, hi, hVj, hai, hs46] <;> (try simp (disch := omega) only [wI, wU, wC]) <;> exact rfl); (simp only [push_cast, seval, List.length_map, e2, e3, hWn, hVn, hj, hi, hVj, hai, hs46] <;> (try simp (disch := omega) only [wI, wU, wC]) <;> exact rfl)) | (apply Run.gfalse (.bool false); (simp only [push_cast, seval, List.length_map, e2, e3, hWn, hVn, hj, hi, hVj, hai, hs46] <;> (try simp (disch := omega) only [wI, wU, wC]) <;> exact rfl); dsimp only [S.put, optG]) | (apply Wp.condT; (simp only [push_cast, seval, List.length_map, e2, e3, hWn, hVn, hj, hi, hVj, hai, hs46] <;> (try simp (disch := omega) only [wI, wU, wC]) <;> exact rfl)) | (apply Wp.condF; (simp only [push_cast, seval, List.length_map, e2, e3, hWn, hVn, hj, hi, hVj, hai, hs46] <;> (try simp (disch := omega) only [wI, wU, wC]) <;> exact rfl)))
                    refine ⟨c + 1, ?_, key, by omega⟩
                    rw [hdc]
                    (refine Le.of ?_ ?_ rfl rfl <;> (try simp only [push_cast, seval, List.length_map, e2, e3, hWn, hVn, hj, hi, hVj, hai, hs46]) <;> (try (with_reducible rfl)))
                  | true =>
                    have hs46 : decide ((s.toNat : Int) = 46) = true := hs
                    cases hch : isH ch with
                    | true =>
                      have hc46 : decide ((ch.toNat : Int) = 46) = true := hch
                      have hdc := hno (by rw [hHc, hs, hch]; rfl)
                      repeat (first | apply Wp.seq | apply Wp.block | (apply Run.next; (simp only [push_cast, seval, List.length_map, e2, e3, hWn, hVn, hj, hi, hVj, hai, hs46, hx0, hac, hc46] <;> (try simp (disch := omega) only [wI, wU, wC]) <;> exact rfl); (focus ((try simp only [push_cast, seval, List.length_map, e2, e3, hWn, hVn, hj, hi, hVj, hai, hs46, hx0, hac, hc46]) <;> exact sT))) | ((first | apply Run.nil | apply Wp.skip); dsimp only [sQ, tQ, bQ]) | (apply Wp.run; (dsimp only [List.map] <;> exact rfl); exact rfl) | (apply Wp.exit; dsimp only [sQ, tQ, bQ]; simp only [reduceIte]) | (apply Run.gtrue; (simp only [push_cast, seval, List.length_map, e2, e3, hWn, hVn, hj, hi, hVj, hai, hs46, hx0, hac, hc46] <;> (try simp (disch := omega) only [wI, wU, wC]) <;> exact rfl); (simp only [push_cast, seval, List.length_map, e2, e3, hWn, hVn, hj, hi, hVj, hai, hs46, hx0, hac, hc46] <;> (try simp (disch := omega) only [wI, wU, wC]) <;> exact rfl)) | (apply Run.gfalse (.bool false); (simp only [push_cast, seval, List.length_map, e2, e3, hWn, hVn, hj, hi, hVj, hai, hs46, hx0, hac, hc46] <;> (try simp (disch := omega) only [wI, wU, wC]) <;> exact rfl); dsimp only [S.put, optG]) | (apply Wp.condT; (simp only [push_cast, seval, List.length_map, e2, e3, hWn, hVn, hj, hi, hVj, hai, hs46, hx0, hac, hc46] <;> (try simp (disch := omega) only [wI, wU, wC]) <;> exact rfl)) | (apply Wp.condF; (simp only [push_cast, seval, List.length_map, e2, e3, hWn, hVn, hj, hi, hVj, hai, hs46, hx0, hac, hc46] <;> (try simp (disch := omega) only [wI, wU, wC]) <;> exact rfl)))
                      (apply Wp.runD 10 mixed; (dsimp only [List.map] <;> exact rfl); exact rfl; kernel_rfl; (dsimp only [List.take] <;> exact rfl); (dsimp only [List.drop] <;> exact rfl); (((repeat (apply Abn.next; (simp only [push_cast, seval, List.length_map, e2, e3, hWn, hVn, hj, hi, hVj, hai, hs46, hx0, hac, hc46] <;> (try simp (disch := omega) only [wI, wU, wC]) <;> exact rfl); (focus ((try simp only [push_cast, seval, List.length_map, e2, e3, hWn, hVn, hj, hi, hVj, hai, hs46, hx0, hac, hc46]) <;> exact sT))))); exact Abn.nil))
                      repeat (first | apply Wp.seq | apply Wp.block | (apply Run.next; (simp only [push_cast, seval, List.length_map, e2, e3, hWn, hVn, hj, hi, hVj, hai, hs46, hx0, hac, hc46] <;> (try simp (disch := omega) only [wI, wU, wC]) <;> exact rfl); (focus ((try simp only [push_cast, seval, List.length_map, e2, e3, hWn, hVn, hj, hi, hVj, hai, hs46, hx0, hac, hc46]) <;> exact sT))) | ((first | apply Run.nil | apply Wp.skip); dsimp only [sQ, tQ, bQ]) | (apply Wp.run; (dsimp only [List.map] <;> exact rfl); exact rfl) | (apply Wp.exit; dsimp only [sQ, tQ, bQ]; simp only [reduceIte]) | (apply Run.gtrue; (simp only [push_cast, seval, List.length_map, e2, e3, hWn, hVn, hj, hi, hVj, hai, hs46, hx0, hac, hc46] <;> (try simp (disch := omega) only [wI, wU, wC]) <;> exact rfl); (simp only [push_cast, seval, List.length_map, e2, e3, hWn, hVn, hj, hi, hVj, hai, hs46, hx0, hac, hc46] <;> (try simp (disch := omega) only [wI, wU, wC]) <;> exact rfl)) | (apply Run.gfalse (.bool false); (simp only [push_cast, seval, List.length_map, e2, e3, hWn, hVn, hj, hi, hVj, hai, hs46, hx0, hac, hc46] <;> (try simp (disch := omega) only [wI, wU, wC]) <;> exact rfl); dsimp only [S.put, optG]) | (apply Wp.condT; (simp only [push_cast, seval, List.length_map, e2, e3, hWn, hVn, hj, hi, hVj, hai, hs46, hx0, hac, hc46] <;> (try simp (disch := omega) only [wI, wU, wC]) <;> exact rfl)) | (apply Wp.condF; (simp only [push_cast, seval, List.length_map, e2, e3, hWn, hVn, hj, hi, hVj, hai, hs46, hx0, hac, hc46] <;> (try simp (disch := omega) only [wI, wU, wC]) <;> exact rfl)))
                      (apply Run.pureP; (simp only [push_cast, seval, List.length_map, e2, e3, hWn, hVn, hj, hi, hVj, hai, hs46, hx0, hac, hc46] <;> (try simp (disch := omega) only [wI, wU, wC]) <;> exact rfl); (exact (Enters.of Try.func14 rfl rfl)); (exact hy1); (focus (simp only [push_cast, seval, List.length_map, e2, e3, hWn, hVn, hj, hi, hVj, hai, hs46, hx0, hac, hc46] <;> first | trivial | assumption | (refine ⟨?_, ?_⟩ <;> assumption) | (simp; done))); (try dsimp only [putA, optG]))
                      repeat (first | apply Wp.seq | apply Wp.block | (apply Run.next; (simp only [push_cast, seval, List.length_map, e2, e3, hWn, hVn, hj, hi, hVj, hai, hs46, hx0, hac, hc46] <;> (try simp (disch := omega) only [wI, wU, wC]) <;> exact rfl); (focus ((try simp only [push_cast, seval, List.length_map, e2, e3, hWn, hVn, hj, hi, hVj, hai, hs46, hx0, hac, hc46]) <;> exact sT))) | ((first | apply Run.nil | apply Wp.skip); dsimp only [sQ, tQ, bQ]) | (apply Wp.run; (dsimp only [List.map] <;> exact rfl); exact rfl) | (apply Wp.exit; dsimp only [sQ, tQ, bQ]; simp only [reduceIte]) | (apply Run.gtrue; (simp only [push_cast, seval, List.length_map, e2, e3, hWn, hVn, hj, hi, hVj, hai, hs46, hx0, hac, hc46] <;> (try simp (disch := omega) only [wI, wU, wC]) <;> exact rfl); (simp only [push_cast, seval, List.length_map, e2, e3, hWn, hVn, hj, hi, hVj, hai, hs46, hx0, hac, hc46] <;> (try simp (disch := omega) only [wI, wU, wC]) <;> exact rfl)) | (apply Run.gfalse (.bool false); (simp only [push_cast, seval, List.length_map, e2, e3, hWn, hVn, hj, hi, hVj, hai, hs46, hx0, hac, hc46] <;> (try simp (disch := omega) only [wI, wU, wC]) <;> exact rfl); dsimp only [S.put, optG]) | (apply Wp.condT; (simp only [push_cast, seval, List.length_map, e2, e3, hWn, hVn, hj, hi, hVj, hai, hs46, hx0, hac, hc46] <;> (try simp (disch := omega) only [wI, wU, wC]) <;> exact rfl)) | (apply Wp.condF; (simp only [push_cast, seval, List.length_map, e2, e3, hWn, hVn, hj, hi, hVj, hai, hs46, hx0, hac, hc46] <;> (try simp (disch := omega) only [wI, wU, wC]) <;> exact rfl)))
                      (apply Run.pureP; (simp only [push_cast, seval, List.length_map, e2, e3, hWn, hVn, hj, hi, hVj, hai, hs46, hx0, hac, hc46] <;> (try simp (disch := omega) only [wI, wU, wC]) <;> exact rfl); (exact (Enters.of Try.func14 rfl rfl)); (exact hx1); (focus (simp only [push_cast, seval, List.length_map, e2, e3, hWn, hVn, hj, hi, hVj, hai, hs46, hx0, hac, hc46] <;> first | trivial | assumption | (refine ⟨?_, ?_⟩ <;> assumption) | (simp; done))); (try dsimp only [putA, optG]))
                      repeat (first | apply Wp.seq | apply Wp.block | (apply Run.next; (simp only [push_cast, seval, List.length_map, e2, e3, hWn, hVn, hj, hi, hVj, hai, hs46, hx0, hac, hc46] <;> (try simp (disch := omega) only [wI, wU, wC]) <;> exact rfl); (focus ((try simp only [push_cast, seval, List.length_map, e2, e3, hWn, hVn, hj, hi, hVj, hai, hs46, hx0, hac, hc46]) <;> exact sT))) | ((first | apply Run.nil | apply Wp.skip); dsimp only [sQ, tQ, bQ]) | (apply Wp.run; (dsimp only [List.map] <;> exact rfl); exact rfl) | (apply Wp.exit; dsimp only [sQ, tQ, bQ]; simp only [reduceIte]) | (apply Run.gtrue; (simp only [push_cast, seval, List.length_map, e2, e3, hWn, hVn, hj, hi, hVj, hai, hs46, hx0, hac, hc46] <;> (try simp (disch := omega) only [wI, wU, wC]) <;> exact rfl); (simp only [push_cast, seval, List.length_map, e2, e3, hWn, hVn, hj, hi, hVj, hai, hs46, hx0, hac, hc46] <;> (try simp (disch := omega) only [wI, wU, wC]) <;> exact rfl)) | (apply Run.gfalse (.bool false); (simp only [push_cast, seval, List.length_map, e2, e3, hWn, hVn, hj, hi, hVj, hai, hs46, hx0, hac, hc46] <;> (try simp (disch := omega) only [wI, wU, wC]) <;> exact rfl); dsimp only [S.put, optG]) | (apply Wp.condT; (simp only [push_cast, seval, List.length_map, e2, e3, hWn, hVn, hj, hi, hVj, hai, hs46, hx0, hac, hc46] <;> (try simp (disch := omega) only [wI, wU, wC]) <;> exact rfl)) | (apply Wp.condF; (simp only [push_cast, seval, List.length_map, e2, e3, hWn, hVn, hj, hi, hVj, hai, hs46, hx0, hac, hc46] <;> (try simp (disch := omega) only [wI, wU, wC]) <;> exact rfl)))
                      refine ⟨c + 1, ?_, key, by omega⟩
                      rw [hdc]
                      (refine Le.of ?_ ?_ rfl rfl <;> (try simp only [push_cast, seval, List.length_map, e2, e3, hWn, hVn, hj, hi, hVj, hai, hs46, hx0, hac, hc46]) <;> (try (with_reducible rfl)))
                    | false =>
                      have hc46 : decide ((ch.toNat : Int) = 46) = false := hch
                      have hdc := hyes (by rw [hHc, hs, hch]; rfl)
                      repeat (first | apply Wp.seq | apply Wp.block | (apply Run.next; (simp only [push_cast, seval, List.length_map, e2, e3, hWn, hVn, hj, hi, hVj, hai, hs46, hx0, hac, hc46, hEE] <;> (try simp (disch := omega) only [wI, wU, wC]) <;> exact rfl); (focus ((try simp only [push_cast, seval, List.length_map, e2, e3, hWn, hVn, hj, hi, hVj, hai, hs46, hx0, hac, hc46, hEE]) <;> exact sT))) | ((first | apply Run.nil | apply Wp.skip); dsimp only [sQ, tQ, bQ]) | (apply Wp.run; (dsimp only [List.map] <;> exact rfl); exact rfl) | (apply Wp.exit; dsimp only [sQ, tQ, bQ]; simp only [reduceIte]) | (apply Run.gtrue; (simp only [push_cast, seval, List.length_map, e2, e3, hWn, hVn, hj, hi, hVj, hai, hs46, hx0, hac, hc46, hEE] <;> (try simp (disch := omega) only [wI, wU, wC]) <;> exact rfl); (simp only [push_cast, seval, List.length_map, e2, e3, hWn, hVn, hj, hi, hVj, hai, hs46, hx0, hac, hc46, hEE] <;> (try simp (disch := omega) only [wI, wU, wC]) <;> exact rfl)) | (apply Run.gfalse (.bool false); (simp only [push_cast, seval, List.length_map, e2, e3, hWn, hVn, hj, hi, hVj, hai, hs46, hx0, hac, hc46, hEE] <;> (try simp (disch := omega) only [wI, wU, wC]) <;> exact rfl); dsimp only [S.put, optG]) | (apply Wp.condT; (simp only [push_cast, seval, List.length_map, e2, e3, hWn, hVn, hj, hi, hVj, hai, hs46, hx0, hac, hc46, hEE] <;> (try simp (disch := omega) only [wI, wU, wC]) <;> exact rfl)) | (apply Wp.condF; (simp only [push_cast, seval, List.length_map, e2, e3, hWn, hVn, hj, hi, hVj, hai, hs46, hx0, hac, hc46, hEE] <;> (try simp (disch := omega) only [wI, wU, wC]) <;> exact rfl)))
                      (apply Wp.runD 10 mixed; (dsimp only [List.map] <;> exact rfl); exact rfl; kernel_rfl; (dsimp only [List.take] <;> exact rfl); (dsimp only [List.drop] <;> exact rfl); (((repeat (apply Abn.next; (simp only [push_cast, seval, List.length_map, e2, e3, hWn, hVn, hj, hi, hVj, hai, hs46, hx0, hac, hc46, hEE] <;> (try simp (disch := omega) only [wI, wU, wC]) <;> exact rfl); (focus ((try simp only [push_cast, seval, List.length_map, e2, e3, hWn, hVn, hj, hi, hVj, hai, hs46, hx0, hac, hc46, hEE]) <;> exact sT))))); exact Abn.nil))
                      repeat (first | apply Wp.seq | apply Wp.block | (apply Run.next; (simp only [push_cast, seval, List.length_map, e2, e3, hWn, hVn, hj, hi, hVj, hai, hs46, hx0, hac, hc46, hEE] <;> (try simp (disch := omega) only [wI, wU, wC]) <;> exact rfl); (focus ((try simp only [push_cast, seval, List.length_map, e2, e3, hWn, hVn, hj, hi, hVj, hai, hs46, hx0, hac, hc46, hEE]) <;> exact sT))) | ((first | apply Run.nil | apply Wp.skip); dsimp only [sQ, tQ, bQ]) | (apply Wp.run; (dsimp only [List.map] <;> exact rfl); exact rfl) | (apply Wp.exit; dsimp only [sQ, tQ, bQ]; simp only [reduceIte]) | (apply Run.gtrue; (simp only [push_cast, seval, List.length_map, e2, e3, hWn, hVn, hj, hi, hVj, hai, hs46, hx0, hac, hc46, hEE] <;> (try simp (disch := omega) only [wI, wU, wC]) <;> exact rfl); (simp only [push_cast, seval, List.length_map, e2, e3, hWn, hVn, hj, hi, hVj, hai, hs46, hx0, hac, hc46, hEE] <;> (try simp (disch := omega) only [wI, wU, wC]) <;> exact rfl)) | (apply Run.gfalse (.bool false); (simp only [push_cast, seval, List.length_map, e2, e3, hWn, hVn, hj, hi, hVj, hai, hs46, hx0, hac, hc46, hEE] <;> (try simp (disch := omega) only [wI, wU, wC]) <;> exact rfl); dsimp only [S.put, optG]) | (apply Wp.condT; (simp only [push_cast, seval, List.length_map, e2, e3, hWn, hVn, hj, hi, hVj, hai, hs46, hx0, hac, hc46, hEE] <;> (try simp (disch := omega) only [wI, wU, wC]) <;> exact rfl)) | (apply Wp.condF; (simp only [push_cast, seval, List.length_map, e2, e3, hWn, hVn, hj, hi, hVj, hai, hs46, hx0, hac, hc46, hEE] <;> (try simp (disch := omega) only [wI, wU, wC]) <;> exact rfl)))
                      (apply Run.pureP; (simp only [push_cast, seval, List.length_map, e2, e3, hWn, hVn, hj, hi, hVj, hai, hs46, hx0, hac, hc46, hEE] <;> (try simp (disch := omega) only [wI, wU, wC]) <;> exact rfl); (exact (Enters.of Try.func14 rfl rfl)); (exact hy1); (focus (simp only [push_cast, seval, List.length_map, e2, e3, hWn, hVn, hj, hi, hVj, hai, hs46, hx0, hac, hc46, hEE] <;> first | trivial | assumption | (refine ⟨?_, ?_⟩ <;> assumption) | (simp; done))); (try dsimp only [putA, optG]))
                      repeat (first | apply Wp.seq | apply Wp.block | (apply Run.next; (simp only [push_cast, seval, List.length_map, e2, e3, hWn, hVn, hj, hi, hVj, hai, hs46, hx0, hac, hc46, hEE] <;> (try simp (disch := omega) only [wI, wU, wC]) <;> exact rfl); (focus ((try simp only [push_cast, seval, List.length_map, e2, e3, hWn, hVn, hj, hi, hVj, hai, hs46, hx0, hac, hc46, hEE]) <;> exact sT))) | ((first | apply Run.nil | apply Wp.skip); dsimp only [sQ, tQ, bQ]) | (apply Wp.run; (dsimp only [List.map] <;> exact rfl); exact rfl) | (apply Wp.exit; dsimp only [sQ, tQ, bQ]; simp only [reduceIte]) | (apply Run.gtrue; (simp only [push_cast, seval, List.length_map, e2, e3, hWn, hVn, hj, hi, hVj, hai, hs46, hx0, hac, hc46, hEE] <;> (try simp (disch := omega) only [wI, wU, wC]) <;> exact rfl); (simp only [push_cast, seval, List.length_map, e2, e3, hWn, hVn, hj, hi, hVj, hai, hs46, hx0, hac, hc46, hEE] <;> (try simp (disch := omega) only [wI, wU, wC]) <;> exact rfl)) | (apply Run.gfalse (.bool false); (simp only [push_cast, seval, List.length_map, e2, e3, hWn, hVn, hj, hi, hVj, hai, hs46, hx0, hac, hc46, hEE] <;> (try simp (disch := omega) only [wI, wU, wC]) <;> exact rfl); dsimp only [S.put, optG]) | (apply Wp.condT; (simp only [push_cast, seval, List.length_map, e2, e3, hWn, hVn, hj, hi, hVj, hai, hs46, hx0, hac, hc46, hEE] <;> (try simp (disch := omega) only [wI, wU, wC]) <;> exact rfl)) | (apply Wp.condF; (simp only [push_cast, seval, List.length_map, e2, e3, hWn, hVn, hj, hi, hVj, hai, hs46, hx0, hac, hc46, hEE] <;> (try simp (disch := omega) only [wI, wU, wC]) <;> exact rfl)))
                      (apply Run.pureP; (simp only [push_cast, seval, List.length_map, e2, e3, hWn, hVn, hj, hi, hVj, hai, hs46, hx0, hac, hc46, hEE] <;> (try simp (disch := omega) only [wI, wU, wC]) <;> exact rfl); (exact (Enters.of Try.func14 rfl rfl)); (exact hx1); (focus (simp only [push_cast, seval, List.length_map, e2, e3, hWn, hVn, hj, hi, hVj, hai, hs46, hx0, hac, hc46, hEE] <;> first | trivial | assumption | (refine ⟨?_, ?_⟩ <;> assumption) | (simp; done))); (try dsimp only [putA, optG]))
                      repeat (first | apply Wp.seq | apply Wp.block | (apply Run.next; (simp only [push_cast, seval, List.length_map, e2, e3, hWn, hVn, hj, hi, hVj, hai, hs46, hx0, hac, hc46, hEE] <;> (try simp (disch := omega) only [wI, wU, wC]) <;> exact rfl); (focus ((try simp only [push_cast, seval, List.length_map, e2, e3, hWn, hVn, hj, hi, hVj, hai, hs46, hx0, hac, hc46, hEE]) <;> exact sT))) | ((first | apply Run.nil | apply Wp.skip); dsimp only [sQ, tQ, bQ]) | (apply Wp.run; (dsimp only [List.map] <;> exact rfl); exact rfl) | (apply Wp.exit; dsimp only [sQ, tQ, bQ]; simp only [reduceIte]) | (apply Run.gtrue; (simp only [push_cast, seval, List.length_map, e2, e3, hWn, hVn, hj, hi, hVj, hai, hs46, hx0, hac, hc46, hEE] <;> (try simp (disch := omega) only [wI, wU, wC]) <;> exact rfl); (simp only [push_cast, seval, List.length_map, e2, e3, hWn, hVn, hj, hi, hVj, hai, hs46, hx0, hac, hc46, hEE] <;> (try simp (disch := omega) only [wI, wU, wC]) <;> exact rfl)) | (apply Run.gfalse (.bool false); (simp only [push_cast, seval, List.length_map, e2, e3, hWn, hVn, hj, hi, hVj, hai, hs46, hx0, hac, hc46, hEE] <;> (try simp (disch := omega) only [wI, wU, wC]) <;> exact rfl); dsimp only [S.put, optG]) | (apply Wp.condT; (simp only [push_cast, seval, List.length_map, e2, e3, hWn, hVn, hj, hi, hVj, hai, hs46, hx0, hac, hc46, hEE] <;> (try simp (disch := omega) only [wI, wU, wC]) <;> exact rfl)) | (apply Wp.condF; (simp only [push_cast, seval, List.length_map, e2, e3, hWn, hVn, hj, hi, hVj, hai, hs46, hx0, hac, hc46, hEE] <;> (try simp (disch := omega) only [wI, wU, wC]) <;> exact rfl)))
                      refine ⟨c + 1, ?_, key, by omega⟩
                      rw [hdc]
                      (refine Le.of ?_ ?_ rfl rfl <;> (try simp only [push_cast, seval, List.length_map, e2, e3, hWn, hVn, hj, hi, hVj, hai, hs46, hx0, hac, hc46, hEE]) <;> (try (with_reducible rfl)))
            · obtain rfl : c = W := by omega
              have e3 : decide ((c : Int) < (c : Int)) = false := decide_eq_false (by omega)
              repeat (first | apply Wp.seq | apply Wp.block | (apply Run.next; (simp only [push_cast, seval, List.length_map, e2, e3, hWn] <;> (try simp (disch := omega) only [wI, wU, wC]) <;> exact rfl); (focus ((try simp only [push_cast, seval, List.length_map, e2, e3, hWn]) <;> exact sT))) | ((first | apply Run.nil | apply Wp.skip); dsimp only [sQ, tQ, bQ]) | (apply Wp.run; (dsimp only [List.map] <;> exact rfl); exact rfl) | (apply Wp.exit; dsimp only [sQ, tQ, bQ]; simp only [reduceIte]) | (apply Run.gtrue; (simp only [push_cast, seval, List.length_map, e2, e3, hWn] <;> (try simp (disch := omega) only [wI, wU, wC]) <;> exact rfl); (simp only [push_cast, seval, List.length_map, e2, e3, hWn] <;> (try simp (disch := omega) only [wI, wU, wC]) <;> exact rfl)) | (apply Run.gfalse (.bool false); (simp only [push_cast, seval, List.length_map, e2, e3, hWn] <;> (try simp (disch := omega) only [wI, wU, wC]) <;> exact rfl); dsimp only [S.put, optG]) | (apply Wp.condT; (simp only [push_cast, seval, List.length_map, e2, e3, hWn] <;> (try simp (disch := omega) only [wI, wU, wC]) <;> exact rfl)) | (apply Wp.condF; (simp only [push_cast, seval, List.length_map, e2, e3, hWn] <;> (try simp (disch := omega) only [wI, wU, wC]) <;> exact rfl)))
              refine ⟨r + 1, ?_, ⟨by omega, ?_⟩, by omega⟩
              · rw [hsn]
                (refine Le.of ?_ ?_ rfl rfl <;> (try simp only [push_cast, seval, List.length_map, e2, e3, hWn]) <;> (try (with_reducible rfl)))
              · rw [hsn]; omega
        · obtain rfl : r = L.length := by omega
          have e2 : decide ((L.length : Int) < (L.length : Int)) = false := decide_eq_false (by omega)
          repeat (first | apply Wp.seq | apply Wp.block | (apply Run.next; (simp only [push_cast, seval, List.length_map, e2] <;> (try simp (disch := omega) only [wI, wU, wC]) <;> exact rfl); (focus ((try simp only [push_cast, seval, List.length_map, e2]) <;> exact sT))) | ((first | apply Run.nil | apply Wp.skip); dsimp only [sQ, tQ, bQ]) | (apply Wp.run; (dsimp only [List.map] <;> exact rfl); exact rfl) | (apply Wp.exit; dsimp only [sQ, tQ, bQ]; simp only [reduceIte]) | (apply Run.gtrue; (simp only [push_cast, seval, List.length_map, e2] <;> (try simp (disch := omega) only [wI, wU, wC]) <;> exact rfl); (simp only [push_cast, seval, List.length_map, e2] <;> (try simp (disch := omega) only [wI, wU, wC]) <;> exact rfl)) | (apply Run.gfalse (.bool false); (simp only [push_cast, seval, List.length_map, e2] <;> (try simp (disch := omega) only [wI, wU, wC]) <;> exact rfl); dsimp only [S.put, optG]) | (apply Wp.condT; (simp only [push_cast, seval, List.length_map, e2] <;> (try simp (disch := omega) only [wI, wU, wC]) <;> exact rfl)) | (apply Wp.condF; (simp only [push_cast, seval, List.length_map, e2] <;> (try simp (disch := omega) only [wI, wU, wC]) <;> exact rfl)))
          (apply Wp.ret; (try dsimp only [sQ, tQ, bQ]); apply leave0; exact rfl; (simp only [push_cast, seval, List.length_map, e2] <;> (try simp (disch := omega) only [wI, wU, wC]) <;> exact rfl); all_goals (try simp only [push_cast, seval, List.length_map, e2]); (try rfl))
end Go.Proofs.Try
set_option maxHeartbeats 8000000
namespace Go.Proofs.Try
open Go.Vg

/-! what is seen is the same from above and from below -/
theorem fm_congr {α β : Type} {l : List α} {f g : α → List β} (h : ∀ x ∈ l, f x = g x) : l.flatMap f = l.flatMap g := by
  induction l with
  | nil => rfl
  | cons a l ih => rw [List.flatMap_cons, List.flatMap_cons, h a (by simp), ih fun x hx => h x (by simp [hx])]
def sumI (h : Int → List UInt8) (lo : Int) (n : Nat) : List UInt8 := (List.range n).flatMap fun i : Nat => h (lo + (i : Int))
theorem sumI_add (h : Int → List UInt8) (lo : Int) (p n : Nat) : sumI h lo (p + n) = sumI h lo p ++ sumI h (lo + p) n := by
  unfold sumI
  rw [List.range_add, List.flatMap_append, List.flatMap_map]
  congr 1
  refine fm_congr fun i _ => ?_
  rw [Int.natCast_add, Int.add_assoc]
theorem sumI_nil {h : Int → List UInt8} {lo : Int} {n : Nat} (hz : ∀ i : Nat, i < n → h (lo + (i : Int)) = []) : sumI h lo n = [] := by
  unfold sumI
  rw [List.flatMap_eq_nil_iff]
  intro i hi
  exact hz i (List.mem_range.1 hi)
theorem sumI_win {h : Int → List UInt8} {a lo : Int} {n K : Nat} (h1 : lo ≤ a) (h2 : a + n ≤ lo + K) (hz : ∀ v : Int, (v < a ∨ a + n ≤ v) → h v = []) : sumI h lo K = sumI h a n := by
  obtain ⟨p, hp⟩ : ∃ p : Nat, a = lo + p := ⟨(a - lo).toNat, by omega⟩
  obtain ⟨q, hq⟩ : ∃ q : Nat, K = p + n + q := ⟨K - (p + n), by omega⟩
  subst hq
  rw [sumI_add, sumI_add, sumI_nil (n := p) fun i hi => hz _ (by omega), sumI_nil (n := q) fun i hi => hz _ (by omega), List.nil_append, List.append_nil, ← hp]
theorem inB_iff {v : Int} {n : Nat} : inB v n = true ↔ 0 ≤ v ∧ v < n := by
  simp only [inB, Bool.and_eq_true, decide_eq_true_eq]; omega
theorem swap1 (g : Int → List UInt8) (d : Int) (n m : Nat) :
    ((List.range n).flatMap fun i : Nat => if inB ((i : Int) + d) m = true then g ((i : Int) + d) else []) = (List.range m).flatMap fun j : Nat => if inB ((j : Int) - d) n = true then g (j : Int) else [] := by
  have hl : ((List.range n).flatMap fun i : Nat => if inB ((i : Int) + d) m = true then g ((i : Int) + d) else []) = sumI (fun a => if inB a m = true ∧ inB (a - d) n = true then g a else []) d n := by
    unfold sumI
    refine fm_congr fun i hi => ?_
    have hi := List.mem_range.1 hi
    have e : inB (d + (i : Int) - d) n = true := inB_iff.2 (by omega)
    rw [Int.add_comm (i : Int) d]
    dsimp only
    by_cases h : inB (d + (i : Int)) m = true
    · rw [if_pos h, if_pos ⟨h, e⟩]
    · rw [if_neg h, if_neg fun h' => h h'.1]
  have hr : ((List.range m).flatMap fun j : Nat => if inB ((j : Int) - d) n = true then g (j : Int) else []) = sumI (fun a => if inB a m = true ∧ inB (a - d) n = true then g a else []) 0 m := by
    unfold sumI
    refine fm_congr fun i hi => ?_
    have hi := List.mem_range.1 hi
    have e : inB (0 + (i : Int)) m = true := inB_iff.2 (by omega)
    dsimp only
    by_cases h : inB ((i : Int) - d) n = true
    · rw [if_pos h, if_pos ⟨e, by rw [Int.zero_add]; exact h⟩, Int.zero_add]
    · rw [if_neg h, if_neg fun h' => h (by have := h'.2; rw [Int.zero_add] at this; exact this)]
  rw [hl, hr]
  have hz1 : ∀ v : Int, (v < d ∨ d + n ≤ v) → (fun a => if inB a m = true ∧ inB (a - d) n = true then g a else []) v = [] := by
    intro v hv
    refine if_neg fun h => ?_
    have := inB_iff.1 h.2
    omega
  have hz2 : ∀ v : Int, (v < 0 ∨ 0 + (m : Int) ≤ v) → (fun a => if inB a m = true ∧ inB (a - d) n = true then g a else []) v = [] := by
    intro v hv
    refine if_neg fun h => ?_
    have := inB_iff.1 h.1
    omega
  rw [← sumI_win (lo := min 0 d) (K := n + m + d.natAbs) (by omega) (by omega) hz1, ← sumI_win (lo := min 0 d) (K := n + m + d.natAbs) (by omega) (by omega) hz2]
/-- hole over letter, by the place in the lower sheet -/
def atL (V L : List ByteArray) (x y a b : Int) : List UInt8 := if isH (seenB V (a - y) (b - x)) = true then showB (seenB L a b) else []
theorem seenB_nat (V : List ByteArray) (r c : Nat) : seenB V (r : Int) (c : Int) = bt (V.getD r .empty) c := by unfold seenB; rw [Int.toNat_natCast, Int.toNat_natCast]
theorem flatMap_if {n : Nat} {p : Bool} {f : Nat → List UInt8} : ((List.range n).flatMap fun i : Nat => if p = true then f i else []) = if p = true then (List.range n).flatMap f else [] := by
  cases p
  · simp
  · simp
theorem see_same (V L : List ByteArray) (x y : Int) : seeU V L x y V.length = dU V L x y L.length := by
  have h1 : seeU V L x y V.length = (List.range V.length).flatMap fun r : Nat => if inB ((r : Int) + y) L.length = true then ((List.range (w0 V)).flatMap fun c : Nat => if inB ((c : Int) + x) (w0 L) = true then atL V L x y ((r : Int) + y) ((c : Int) + x) else []) else [] := by
    unfold seeU seeW
    refine fm_congr fun r _ => ?_
    rw [← flatMap_if]
    refine fm_congr fun c _ => ?_
    unfold seeC holeB atL
    rw [Int.add_sub_cancel, Int.add_sub_cancel, seenB_nat]
    cases isH (bt (V.getD r .empty) c) <;> cases inB ((r : Int) + y) L.length <;> cases inB ((c : Int) + x) (w0 L) <;> rfl
  have h2 : dU V L x y L.length = (List.range L.length).flatMap fun r : Nat => if inB ((r : Int) - y) V.length = true then ((List.range (w0 L)).flatMap fun c : Nat => if inB ((c : Int) - x) (w0 V) = true then atL V L x y (r : Int) (c : Int) else []) else [] := by
    unfold dU dW
    refine fm_congr fun r _ => ?_
    rw [← flatMap_if]
    refine fm_congr fun c _ => ?_
    unfold dC dB atL showB
    rw [seenB_nat]
    cases isH (seenB V ((r : Int) - y) ((c : Int) - x)) <;> cases inB ((r : Int) - y) V.length <;> cases inB ((c : Int) - x) (w0 V) <;> cases isH (bt (L.getD r .empty) c) <;> rfl
  rw [h1, h2, swap1 (fun a => (List.range (w0 V)).flatMap fun c : Nat => if inB ((c : Int) + x) (w0 L) = true then atL V L x y a ((c : Int) + x) else []) y]
  refine fm_congr fun r _ => ?_
  rw [swap1 (fun b => atL V L x y (r : Int) b) x]
theorem sh_of {U : List ByteArray} (h : sheetB U = true) : Sh U := by
  simp only [sheetB, in8, Bool.and_eq_true, decide_eq_true_eq] at h
  obtain ⟨h1, h2, h3⟩ := h
  refine ⟨by omega, by omega, fun j hj => ?_⟩
  rw [List.all_eq_true] at h3
  have := h3 (U.getD j .empty) (by simp [hj])
  simp only [rowB, Bool.and_eq_true, decide_eq_true_eq] at this
  omega
end Go.Proofs.Try
