/- A part of the proof of PuzzlesCiphers: contracts of functions, with plain laws that they need. -/
import Derived.Test.YtmdkhbmhgcdpaaaVgX1J
set_option linter.all false
set_option maxHeartbeats 8000000
namespace Go.Proofs.Try
open Go.Vg

/-! the document's Shift -/
theorem rletter_pure (c : UInt8) : Pure Try.prog 91 [AV.byte c] (.bool (letter c)) := by
  unfold AV.byte
  (refine Spec.of_body Try.func91 rfl (by rw [Try.ntmps91]; simp) 0 (by simp) ?_; rw [Try.results91, Try.ntmps91]; simp only [entry, zipArgs, Nat.reduceAdd])
  repeat (first | apply Wp.seq | apply Wp.block | (apply Run.next; (simp only [push_cast, seval] <;> (try simp (disch := omega) only [wI, wU, wC]) <;> exact rfl); (focus ((try simp only [push_cast, seval]) <;> exact sT))) | ((first | apply Run.nil | apply Wp.skip); dsimp only [sQ, tQ, bQ]) | (apply Wp.run; (dsimp only [List.map] <;> exact rfl); exact rfl) | (apply Wp.exit; dsimp only [sQ, tQ, bQ]; simp only [reduceIte]))
  (apply Wp.ret; (try dsimp only [sQ, tQ, bQ]); apply leave0; exact rfl; (simp only [push_cast, seval] <;> (try simp (disch := omega) only [wI, wU, wC]) <;> exact rfl); all_goals (try simp only [push_cast, seval]); (try rfl))
theorem tmod_q (x : Int) : ∃ q : Int, x = 26 * q + x.tmod 26 := ⟨x.tdiv 26, (Int.mul_tdiv_add_tmod x 26).symm⟩
theorem mv_ref (a n : Int) (ha : 0 ≤ a ∧ a ≤ 25) : (a + n.tmod 26 + 26).tmod 26 = ((a + n).tmod 26 + 26).tmod 26 := by
  have h1 := tmod26 (a + n)
  obtain ⟨q1, e1⟩ := tmod_q (a + n)
  obtain ⟨q2, e2⟩ := tmod_q ((a + n).tmod 26 + 26)
  obtain ⟨q3, e3⟩ := tmod_q n
  obtain ⟨q4, e4⟩ := tmod_q (a + n.tmod 26 + 26)
  have h3 : -26 < n.tmod 26 := by
    have := Int.lt_tmod_of_pos n (b := 26) (by decide); omega
  have h4 := Int.tmod_nonneg (a := a + n.tmod 26 + 26) 26 (by omega)
  have h5 := Int.tmod_lt_of_pos (a + n.tmod 26 + 26) (b := 26) (by decide)
  omega
theorem rmoved_pure (c : UInt8) (n : Int) (hc : letter c = true) (hn : -1000 ≤ n ∧ n ≤ 1000) : Pure Try.prog 92 [AV.byte c, .int n] (AV.byte (mv c n)) := by
  unfold AV.byte
  simp only [letter, Bool.and_eq_true, decide_eq_true_eq] at hc
  have h26 := tmod26 (((c.toNat : Int) - 97) + n)
  have e := mv_ref ((c.toNat : Int) - 97) n (by omega)
  have h1 : -26 < n.tmod 26 := by
    have := Int.lt_tmod_of_pos n (b := 26) (by decide); omega
  have h2 := Int.tmod_lt_of_pos n (b := 26) (by decide)
  rw [← e] at h26
  (refine Spec.of_body Try.func92 rfl (by rw [Try.ntmps92]; simp) 0 (by simp) ?_; rw [Try.results92, Try.ntmps92]; simp only [entry, zipArgs, Nat.reduceAdd])
  repeat (first | apply Wp.seq | apply Wp.block | (apply Run.next; (simp only [push_cast, seval] <;> (try simp (disch := omega) only [wI, wU, wC]) <;> exact rfl); (focus ((try simp only [push_cast, seval]) <;> exact sT))) | ((first | apply Run.nil | apply Wp.skip); dsimp only [sQ, tQ, bQ]) | (apply Wp.run; (dsimp only [List.map] <;> exact rfl); exact rfl) | (apply Wp.exit; dsimp only [sQ, tQ, bQ]; simp only [reduceIte]))
  (apply Wp.ret; (try dsimp only [sQ, tQ, bQ]); apply leave0; exact rfl; (simp only [push_cast, seval] <;> (try simp (disch := omega) only [wI, wU, wC]) <;> exact rfl); all_goals (try simp only [push_cast, seval]); (try rfl))
  unfold mv
  congr 2
  rw [UInt8.toNat_ofNat', ← e]
  omega
def isL (b : ByteArray) : Bool := b.data.toList.all letter
theorem byteAtN (b : ByteArray) (k : Nat) : byteAt b (k : Int) = b.data.toList.getD k 0 := by unfold byteAt; rw [Int.toNat_natCast]
theorem all_getD {l : List UInt8} {p : UInt8 → Bool} (h : ∀ j, j < l.length → p (l.getD j 0) = true) : l.all p = true := by
  rw [List.all_eq_true]
  intro x hx
  obtain ⟨i, hi, rfl⟩ := List.getElem_of_mem hx
  simpa [hi] using h i hi
theorem rletters_pure (b : ByteArray) (hb : b.size ≤ 1000) : Pure Try.prog 85 [.str b] (.bool (isL b)) := by
  have hbl : b.data.toList.length = b.size := by simp
  unfold isL
  have hat := byteAtN b
  generalize hl : b.data.toList = l at hbl hat
  (refine Spec.of_body Try.func85 rfl (by rw [Try.ntmps85]; simp) 0 (by simp) ?_; rw [Try.results85, Try.ntmps85]; simp only [entry, zipArgs, Nat.reduceAdd])
  repeat (first | apply Wp.seq | apply Wp.block | (apply Run.next; (simp only [push_cast, seval] <;> (try simp (disch := omega) only [wI, wU, wC]) <;> exact rfl); (focus ((try simp only [push_cast, seval]) <;> exact sT))) | ((first | apply Run.nil | apply Wp.skip); dsimp only [sQ, tQ, bQ]) | (apply Wp.run; (dsimp only [List.map] <;> exact rfl); exact rfl) | (apply Wp.exit; dsimp only [sQ, tQ, bQ]; simp only [reduceIte]))
  refine Wp.loop (fun k : Nat => { t := [(0, .str b), (3, .int k)], m := [], n := 15 }) (fun k => k ≤ b.size ∧ ∀ j, j < k → letter (l.getD j 0) = true) (fun k => b.size - k) 0 ?_ ?_ ?_
  · (refine Le.of ?_ ?_ rfl rfl <;> (try simp only [push_cast, seval]) <;> (try (with_reducible rfl)))
  · simp
  · rintro k ⟨hk1, hk2⟩
    have hak := hat k
    generalize hc0 : l.getD k 0 = c at hak
    have hlt := rletter_pure c
    by_cases hkb : k < b.size
    · have e1 : decide ((k : Int) < (b.size : Int)) = true := decide_eq_true (by omega)
      cases hlc : letter c with
      | true =>
        rw [hlc] at hlt
        repeat (first | apply Wp.seq | apply Wp.block | (apply Run.next; (simp only [push_cast, seval, e1, hak] <;> (try simp (disch := omega) only [wI, wU, wC]) <;> exact rfl); (focus ((try simp only [push_cast, seval, e1, hak]) <;> exact sT))) | ((first | apply Run.nil | apply Wp.skip); dsimp only [sQ, tQ, bQ]) | (apply Wp.run; (dsimp only [List.map] <;> exact rfl); exact rfl) | (apply Wp.exit; dsimp only [sQ, tQ, bQ]; simp only [reduceIte]) | (apply Run.gtrue; (simp only [push_cast, seval, e1, hak] <;> (try simp (disch := omega) only [wI, wU, wC]) <;> exact rfl); (simp only [push_cast, seval, e1, hak] <;> (try simp (disch := omega) only [wI, wU, wC]) <;> exact rfl)) | (apply Run.gfalse (.bool false); (simp only [push_cast, seval, e1, hak] <;> (try simp (disch := omega) only [wI, wU, wC]) <;> exact rfl); dsimp only [S.put, optG]) | (apply Wp.condT; (simp only [push_cast, seval, e1, hak] <;> (try simp (disch := omega) only [wI, wU, wC]) <;> exact rfl)) | (apply Wp.condF; (simp only [push_cast, seval, e1, hak] <;> (try simp (disch := omega) only [wI, wU, wC]) <;> exact rfl)))
        (apply Run.pureP; (simp only [push_cast, seval, e1, hak] <;> (try simp (disch := omega) only [wI, wU, wC]) <;> exact rfl); (exact (Enters.of Try.func91 rfl rfl)); (exact hlt); (focus (simp only [push_cast, seval, e1, hak] <;> first | trivial | assumption | (refine ⟨?_, ?_⟩ <;> assumption) | (simp; done))); (try dsimp only [putA, optG]))
        repeat (first | apply Wp.seq | apply Wp.block | (apply Run.next; (simp only [push_cast, seval, e1, hak] <;> (try simp (disch := omega) only [wI, wU, wC]) <;> exact rfl); (focus ((try simp only [push_cast, seval, e1, hak]) <;> exact sT))) | ((first | apply Run.nil | apply Wp.skip); dsimp only [sQ, tQ, bQ]) | (apply Wp.run; (dsimp only [List.map] <;> exact rfl); exact rfl) | (apply Wp.exit; dsimp only [sQ, tQ, bQ]; simp only [reduceIte]) | (apply Run.gtrue; (simp only [push_cast, seval, e1, hak] <;> (try simp (disch := omega) only [wI, wU, wC]) <;> exact rfl); (simp only [push_cast, seval, e1, hak] <;> (try simp (disch := omega) only [wI, wU, wC]) <;> exact rfl)) | (apply Run.gfalse (.bool false); (simp only [push_cast, seval, e1, hak] <;> (try simp (disch := omega) only [wI, wU, wC]) <;> exact rfl); dsimp only [S.put, optG]) | (apply Wp.condT; (simp only [push_cast, seval, e1, hak] <;> (try simp (disch := omega) only [wI, wU, wC]) <;> exact rfl)) | (apply Wp.condF; (simp only [push_cast, seval, e1, hak] <;> (try simp (disch := omega) only [wI, wU, wC]) <;> exact rfl)))
        refine ⟨k + 1, ?_, ⟨by omega, fun j hj => ?_⟩, by omega⟩
        · (refine Le.of ?_ ?_ rfl rfl <;> (try simp only [push_cast, seval, e1, hak]) <;> (try (with_reducible rfl)))
        · by_cases hjk : j = k
          · subst hjk; rw [hc0]; exact hlc
          · exact hk2 j (by omega)
      | false =>
        rw [hlc] at hlt
        repeat (first | apply Wp.seq | apply Wp.block | (apply Run.next; (simp only [push_cast, seval, e1, hak] <;> (try simp (disch := omega) only [wI, wU, wC]) <;> exact rfl); (focus ((try simp only [push_cast, seval, e1, hak]) <;> exact sT))) | ((first | apply Run.nil | apply Wp.skip); dsimp only [sQ, tQ, bQ]) | (apply Wp.run; (dsimp only [List.map] <;> exact rfl); exact rfl) | (apply Wp.exit; dsimp only [sQ, tQ, bQ]; simp only [reduceIte]) | (apply Run.gtrue; (simp only [push_cast, seval, e1, hak] <;> (try simp (disch := omega) only [wI, wU, wC]) <;> exact rfl); (simp only [push_cast, seval, e1, hak] <;> (try simp (disch := omega) only [wI, wU, wC]) <;> exact rfl)) | (apply Run.gfalse (.bool false); (simp only [push_cast, seval, e1, hak] <;> (try simp (disch := omega) only [wI, wU, wC]) <;> exact rfl); dsimp only [S.put, optG]) | (apply Wp.condT; (simp only [push_cast, seval, e1, hak] <;> (try simp (disch := omega) only [wI, wU, wC]) <;> exact rfl)) | (apply Wp.condF; (simp only [push_cast, seval, e1, hak] <;> (try simp (disch := omega) only [wI, wU, wC]) <;> exact rfl)))
        (apply Run.pureP; (simp only [push_cast, seval, e1, hak] <;> (try simp (disch := omega) only [wI, wU, wC]) <;> exact rfl); (exact (Enters.of Try.func91 rfl rfl)); (exact hlt); (focus (simp only [push_cast, seval, e1, hak] <;> first | trivial | assumption | (refine ⟨?_, ?_⟩ <;> assumption) | (simp; done))); (try dsimp only [putA, optG]))
        repeat (first | apply Wp.seq | apply Wp.block | (apply Run.next; (simp only [push_cast, seval, e1, hak] <;> (try simp (disch := omega) only [wI, wU, wC]) <;> exact rfl); (focus ((try simp only [push_cast, seval, e1, hak]) <;> exact sT))) | ((first | apply Run.nil | apply Wp.skip); dsimp only [sQ, tQ, bQ]) | (apply Wp.run; (dsimp only [List.map] <;> exact rfl); exact rfl) | (apply Wp.exit; dsimp only [sQ, tQ, bQ]; simp only [reduceIte]) | (apply Run.gtrue; (simp only [push_cast, seval, e1, hak] <;> (try simp (disch := omega) only [wI, wU, wC]) <;> exact rfl); (simp only [push_cast, seval, e1, hak] <;> (try simp (disch := omega) only [wI, wU, wC]) <;> exact rfl)) | (apply Run.gfalse (.bool false); (simp only [push_cast, seval, e1, hak] <;> (try simp (disch := omega) only [wI, wU, wC]) <;> exact rfl); dsimp only [S.put, optG]) | (apply Wp.condT; (simp only [push_cast, seval, e1, hak] <;> (try simp (disch := omega) only [wI, wU, wC]) <;> exact rfl)) | (apply Wp.condF; (simp only [push_cast, seval, e1, hak] <;> (try simp (disch := omega) only [wI, wU, wC]) <;> exact rfl)))
        (apply Wp.ret; (try dsimp only [sQ, tQ, bQ]); apply leave0; exact rfl; (simp only [push_cast, seval, e1, hak] <;> (try simp (disch := omega) only [wI, wU, wC]) <;> exact rfl); all_goals (try simp only [push_cast, seval, e1, hak]); (try rfl))
        have : l.all letter = false := by
          rw [← Bool.not_eq_true, List.all_eq_true]
          intro h
          have := h c (by rw [← hc0]; simp [hbl, hkb])
          rw [hlc] at this; cases this
        rw [this]
    · have e1 : decide ((k : Int) < (b.size : Int)) = false := decide_eq_false (by omega)
      repeat (first | apply Wp.seq | apply Wp.block | (apply Run.next; (simp only [push_cast, seval, e1] <;> (try simp (disch := omega) only [wI, wU, wC]) <;> exact rfl); (focus ((try simp only [push_cast, seval, e1]) <;> exact sT))) | ((first | apply Run.nil | apply Wp.skip); dsimp only [sQ, tQ, bQ]) | (apply Wp.run; (dsimp only [List.map] <;> exact rfl); exact rfl) | (apply Wp.exit; dsimp only [sQ, tQ, bQ]; simp only [reduceIte]) | (apply Run.gtrue; (simp only [push_cast, seval, e1] <;> (try simp (disch := omega) only [wI, wU, wC]) <;> exact rfl); (simp only [push_cast, seval, e1] <;> (try simp (disch := omega) only [wI, wU, wC]) <;> exact rfl)) | (apply Run.gfalse (.bool false); (simp only [push_cast, seval, e1] <;> (try simp (disch := omega) only [wI, wU, wC]) <;> exact rfl); dsimp only [S.put, optG]) | (apply Wp.condT; (simp only [push_cast, seval, e1] <;> (try simp (disch := omega) only [wI, wU, wC]) <;> exact rfl)) | (apply Wp.condF; (simp only [push_cast, seval, e1] <;> (try simp (disch := omega) only [wI, wU, wC]) <;> exact rfl)))
      (apply Wp.ret; (try dsimp only [sQ, tQ, bQ]); apply leave0; exact rfl; (simp only [push_cast, seval, e1] <;> (try simp (disch := omega) only [wI, wU, wC]) <;> exact rfl); all_goals (try simp only [push_cast, seval, e1]); (try rfl))
      rw [all_getD fun j hj => hk2 j (by omega)]
theorem chl_yes {f : Nat → Int} {l : List UInt8} {k : Nat} (h : k < l.length) (hc : letter (l.getD k 0) = true) : changeL f (l.take (k + 1)) 0 = changeL f (l.take k) 0 ++ [mv (l.getD k 0) (f (cntL (l.take k)))] := by
  rw [take_snoc8 l k h, changeL_snoc, if_pos hc, Nat.zero_add]
theorem chl_no {f : Nat → Int} {l : List UInt8} {k : Nat} (h : k < l.length) (hc : letter (l.getD k 0) = false) : changeL f (l.take (k + 1)) 0 = changeL f (l.take k) 0 ++ [l.getD k 0] := by
  rw [take_snoc8 l k h, changeL_snoc, if_neg (by rw [hc]; simp)]
theorem map_snocB (l : List UInt8) (c : UInt8) : (l ++ [c]).map AV.byte = l.map AV.byte ++ [AV.byte c] := by simp
theorem rshift_pure (b : ByteArray) (n : Int) (hb : b.size ≤ 1000) (hn : -1000 ≤ n ∧ n ≤ 1000) : Pure Try.prog 87 [.str b, .int n] (.str (shiftB b n)) := by
  have hbl : b.data.toList.length = b.size := by simp
  unfold shiftB
  have hat := byteAtN b
  generalize hl : b.data.toList = l at hbl hat
  (refine Spec.of_body Try.func87 rfl (by rw [Try.ntmps87]; simp) 0 (by simp) ?_; rw [Try.results87, Try.ntmps87]; simp only [entry, zipArgs, Nat.reduceAdd])
  repeat (first | apply Wp.seq | apply Wp.block | (apply Run.next; (simp only [push_cast, seval] <;> (try simp (disch := omega) only [wI, wU, wC]) <;> exact rfl); (focus ((try simp only [push_cast, seval]) <;> exact sT))) | ((first | apply Run.nil | apply Wp.skip); dsimp only [sQ, tQ, bQ]) | (apply Wp.run; (dsimp only [List.map] <;> exact rfl); exact rfl) | (apply Wp.exit; dsimp only [sQ, tQ, bQ]; simp only [reduceIte]))
  apply Wp.adopt 5 1; (simp only [push_cast, seval] <;> (try simp (disch := omega) only [wI, wU, wC]) <;> exact rfl)
  refine Wp.loop (fun k : Nat => { t := [(0, .str b), (1, .int n), (5, .osl 0 k 0 k), (6, .int k)], m := [⟨k, .row 1 ((changeL (fun _ => n) (l.take k) 0).map AV.byte)⟩], n := 33 }) (fun k => k ≤ b.size) (fun k => b.size - k) 0 ?_ ?_ ?_
  · (refine Le.of ?_ ?_ rfl rfl <;> (try simp only [push_cast, seval]) <;> (try (with_reducible rfl)))
    all_goals rfl
  · omega
  · intro k hk
    have hak := hat k
    have hln : (changeL (fun _ => n) (l.take k) 0).length = k := by rw [changeL_len, List.length_take]; omega
    have hy := @chl_yes (fun _ => n) l k
    have hno := @chl_no (fun _ => n) l k
    generalize hc0 : l.getD k 0 = c at hak hy hno
    have hlt := rletter_pure c
    by_cases hkb : k < b.size
    · have e1 : decide ((k : Int) < (b.size : Int)) = true := decide_eq_true (by omega)
      generalize hG : changeL (fun _ => n) (l.take k) 0 = G at hln hy hno
      cases hlc : letter c with
      | true =>
        have hy := hy (by omega) hlc
        have hmv := rmoved_pure c n hlc hn
        rw [hlc] at hlt
        repeat (first | apply Wp.seq | apply Wp.block | (apply Run.next; (simp only [push_cast, seval, e1, hak, hln, List.length_map] <;> (try simp (disch := omega) only [wI, wU, wC]) <;> exact rfl); (focus ((try simp only [push_cast, seval, e1, hak, hln, List.length_map]) <;> exact sT))) | ((first | apply Run.nil | apply Wp.skip); dsimp only [sQ, tQ, bQ]) | (apply Wp.run; (dsimp only [List.map] <;> exact rfl); exact rfl) | (apply Wp.exit; dsimp only [sQ, tQ, bQ]; simp only [reduceIte]) | (apply Run.gtrue; (simp only [push_cast, seval, e1, hak, hln, List.length_map] <;> (try simp (disch := omega) only [wI, wU, wC]) <;> exact rfl); (simp only [push_cast, seval, e1, hak, hln, List.length_map] <;> (try simp (disch := omega) only [wI, wU, wC]) <;> exact rfl)) | (apply Run.gfalse (.bool false); (simp only [push_cast, seval, e1, hak, hln, List.length_map] <;> (try simp (disch := omega) only [wI, wU, wC]) <;> exact rfl); dsimp only [S.put, optG]) | (apply Wp.condT; (simp only [push_cast, seval, e1, hak, hln, List.length_map] <;> (try simp (disch := omega) only [wI, wU, wC]) <;> exact rfl)) | (apply Wp.condF; (simp only [push_cast, seval, e1, hak, hln, List.length_map] <;> (try simp (disch := omega) only [wI, wU, wC]) <;> exact rfl)))
        (apply Run.pureP; (simp only [push_cast, seval, e1, hak, hln, List.length_map] <;> (try simp (disch := omega) only [wI, wU, wC]) <;> exact rfl); (exact (Enters.of Try.func91 rfl rfl)); (exact hlt); (focus (simp only [push_cast, seval, e1, hak, hln, List.length_map] <;> first | trivial | assumption | (refine ⟨?_, ?_⟩ <;> assumption) | (simp; done))); (try dsimp only [putA, optG]))
        repeat (first | apply Wp.seq | apply Wp.block | (apply Run.next; (simp only [push_cast, seval, e1, hak, hln, List.length_map] <;> (try simp (disch := omega) only [wI, wU, wC]) <;> exact rfl); (focus ((try simp only [push_cast, seval, e1, hak, hln, List.length_map]) <;> exact sT))) | ((first | apply Run.nil | apply Wp.skip); dsimp only [sQ, tQ, bQ]) | (apply Wp.run; (dsimp only [List.map] <;> exact rfl); exact rfl) | (apply Wp.exit; dsimp only [sQ, tQ, bQ]; simp only [reduceIte]) | (apply Run.gtrue; (simp only [push_cast, seval, e1, hak, hln, List.length_map] <;> (try simp (disch := omega) only [wI, wU, wC]) <;> exact rfl); (simp only [push_cast, seval, e1, hak, hln, List.length_map] <;> (try simp (disch := omega) only [wI, wU, wC]) <;> exact rfl)) | (apply Run.gfalse (.bool false); (simp only [push_cast, seval, e1, hak, hln, List.length_map] <;> (try simp (disch := omega) only [wI, wU, wC]) <;> exact rfl); dsimp only [S.put, optG]) | (apply Wp.condT; (simp only [push_cast, seval, e1, hak, hln, List.length_map] <;> (try simp (disch := omega) only [wI, wU, wC]) <;> exact rfl)) | (apply Wp.condF; (simp only [push_cast, seval, e1, hak, hln, List.length_map] <;> (try simp (disch := omega) only [wI, wU, wC]) <;> exact rfl)))
        (apply Run.pureP; (simp only [push_cast, seval, e1, hak, hln, List.length_map] <;> (try simp (disch := omega) only [wI, wU, wC]) <;> exact rfl); (exact (Enters.of Try.func92 rfl rfl)); (exact hmv); (focus (simp only [push_cast, seval, e1, hak, hln, List.length_map] <;> first | trivial | assumption | (refine ⟨?_, ?_⟩ <;> assumption) | (simp; done))); (try dsimp only [putA, optG]))
        repeat (first | apply Wp.seq | apply Wp.block | (apply Run.next; (simp only [push_cast, seval, e1, hak, hln, List.length_map] <;> (try simp (disch := omega) only [wI, wU, wC]) <;> exact rfl); (focus ((try simp only [push_cast, seval, e1, hak, hln, List.length_map]) <;> exact sT))) | ((first | apply Run.nil | apply Wp.skip); dsimp only [sQ, tQ, bQ]) | (apply Wp.run; (dsimp only [List.map] <;> exact rfl); exact rfl) | (apply Wp.exit; dsimp only [sQ, tQ, bQ]; simp only [reduceIte]) | (apply Run.gtrue; (simp only [push_cast, seval, e1, hak, hln, List.length_map] <;> (try simp (disch := omega) only [wI, wU, wC]) <;> exact rfl); (simp only [push_cast, seval, e1, hak, hln, List.length_map] <;> (try simp (disch := omega) only [wI, wU, wC]) <;> exact rfl)) | (apply Run.gfalse (.bool false); (simp only [push_cast, seval, e1, hak, hln, List.length_map] <;> (try simp (disch := omega) only [wI, wU, wC]) <;> exact rfl); dsimp only [S.put, optG]) | (apply Wp.condT; (simp only [push_cast, seval, e1, hak, hln, List.length_map] <;> (try simp (disch := omega) only [wI, wU, wC]) <;> exact rfl)) | (apply Wp.condF; (simp only [push_cast, seval, e1, hak, hln, List.length_map] <;> (try simp (disch := omega) only [wI, wU, wC]) <;> exact rfl)))
        refine ⟨k + 1, ?_, by omega, by omega⟩
        rw [hy, map_snocB]
        (refine Le.of ?_ ?_ rfl rfl <;> (try simp only [push_cast, seval, e1, hak, hln, List.length_map]) <;> (try (with_reducible rfl)))
        rw [List.take_of_length_le (by omega)]
      | false =>
        have hno := hno (by omega) hlc
        rw [hlc] at hlt
        repeat (first | apply Wp.seq | apply Wp.block | (apply Run.next; (simp only [push_cast, seval, e1, hak, hln, List.length_map] <;> (try simp (disch := omega) only [wI, wU, wC]) <;> exact rfl); (focus ((try simp only [push_cast, seval, e1, hak, hln, List.length_map]) <;> exact sT))) | ((first | apply Run.nil | apply Wp.skip); dsimp only [sQ, tQ, bQ]) | (apply Wp.run; (dsimp only [List.map] <;> exact rfl); exact rfl) | (apply Wp.exit; dsimp only [sQ, tQ, bQ]; simp only [reduceIte]) | (apply Run.gtrue; (simp only [push_cast, seval, e1, hak, hln, List.length_map] <;> (try simp (disch := omega) only [wI, wU, wC]) <;> exact rfl); (simp only [push_cast, seval, e1, hak, hln, List.length_map] <;> (try simp (disch := omega) only [wI, wU, wC]) <;> exact rfl)) | (apply Run.gfalse (.bool false); (simp only [push_cast, seval, e1, hak, hln, List.length_map] <;> (try simp (disch := omega) only [wI, wU, wC]) <;> exact rfl); dsimp only [S.put, optG]) | (apply Wp.condT; (simp only [push_cast, seval, e1, hak, hln, List.length_map] <;> (try simp (disch := omega) only [wI, wU, wC]) <;> exact rfl)) | (apply Wp.condF; (simp only [push_cast, seval, e1, hak, hln, List.length_map] <;> (try simp (disch := omega) only [wI, wU, wC]) <;> exact rfl)))
        (apply Run.pureP; (simp only [push_cast, seval, e1, hak, hln, List.length_map] <;> (try simp (disch := omega) only [wI, wU, wC]) <;> exact rfl); (exact (Enters.of Try.func91 rfl rfl)); (exact hlt); (focus (simp only [push_cast, seval, e1, hak, hln, List.length_map] <;> first | trivial | assumption | (refine ⟨?_, ?_⟩ <;> assumption) | (simp; done))); (try dsimp only [putA, optG]))
        repeat (first | apply Wp.seq | apply Wp.block | (apply Run.next; (simp only [push_cast, seval, e1, hak, hln, List.length_map] <;> (try simp (disch := omega) only [wI, wU, wC]) <;> exact rfl); (focus ((try simp only [push_cast, seval, e1, hak, hln, List.length_map]) <;> exact sT))) | ((first | apply Run.nil | apply Wp.skip); dsimp only [sQ, tQ, bQ]) | (apply Wp.run; (dsimp only [List.map] <;> exact rfl); exact rfl) | (apply Wp.exit; dsimp only [sQ, tQ, bQ]; simp only [reduceIte]) | (apply Run.gtrue; (simp only [push_cast, seval, e1, hak, hln, List.length_map] <;> (try simp (disch := omega) only [wI, wU, wC]) <;> exact rfl); (simp only [push_cast, seval, e1, hak, hln, List.length_map] <;> (try simp (disch := omega) only [wI, wU, wC]) <;> exact rfl)) | (apply Run.gfalse (.bool false); (simp only [push_cast, seval, e1, hak, hln, List.length_map] <;> (try simp (disch := omega) only [wI, wU, wC]) <;> exact rfl); dsimp only [S.put, optG]) | (apply Wp.condT; (simp only [push_cast, seval, e1, hak, hln, List.length_map] <;> (try simp (disch := omega) only [wI, wU, wC]) <;> exact rfl)) | (apply Wp.condF; (simp only [push_cast, seval, e1, hak, hln, List.length_map] <;> (try simp (disch := omega) only [wI, wU, wC]) <;> exact rfl)))
        refine ⟨k + 1, ?_, by omega, by omega⟩
        rw [hno, map_snocB]
        (refine Le.of ?_ ?_ rfl rfl <;> (try simp only [push_cast, seval, e1, hak, hln, List.length_map]) <;> (try (with_reducible rfl)))
        rw [List.take_of_length_le (by omega)]
    · obtain rfl : k = b.size := by omega
      have e1 : decide ((b.size : Int) < (b.size : Int)) = false := decide_eq_false (by omega)
      rw [List.take_of_length_le (by omega)] at hln ⊢
      repeat (first | apply Wp.seq | apply Wp.block | (apply Run.next; (simp only [push_cast, seval, e1, hln, List.length_map] <;> (try simp (disch := omega) only [wI, wU, wC]) <;> exact rfl); (focus ((try simp only [push_cast, seval, e1, hln, List.length_map]) <;> exact sT))) | ((first | apply Run.nil | apply Wp.skip); dsimp only [sQ, tQ, bQ]) | (apply Wp.run; (dsimp only [List.map] <;> exact rfl); exact rfl) | (apply Wp.exit; dsimp only [sQ, tQ, bQ]; simp only [reduceIte]) | (apply Run.gtrue; (simp only [push_cast, seval, e1, hln, List.length_map] <;> (try simp (disch := omega) only [wI, wU, wC]) <;> exact rfl); (simp only [push_cast, seval, e1, hln, List.length_map] <;> (try simp (disch := omega) only [wI, wU, wC]) <;> exact rfl)) | (apply Run.gfalse (.bool false); (simp only [push_cast, seval, e1, hln, List.length_map] <;> (try simp (disch := omega) only [wI, wU, wC]) <;> exact rfl); dsimp only [S.put, optG]) | (apply Wp.condT; (simp only [push_cast, seval, e1, hln, List.length_map] <;> (try simp (disch := omega) only [wI, wU, wC]) <;> exact rfl)) | (apply Wp.condF; (simp only [push_cast, seval, e1, hln, List.length_map] <;> (try simp (disch := omega) only [wI, wU, wC]) <;> exact rfl)))
      apply Run.strOf; (simp only [push_cast, seval, e1, hln, List.length_map] <;> (try simp (disch := omega) only [wI, wU, wC]) <;> exact rfl); (simp only [push_cast, seval, e1, hln, List.length_map] <;> (try simp (disch := omega) only [wI, wU, wC]) <;> exact rfl); (simp only [push_cast, seval, e1, hln, List.length_map] <;> (try simp (disch := omega) only [wI, wU, wC]) <;> exact rfl); (simp only [push_cast, seval, e1, hln, List.length_map] <;> (try simp (disch := omega) only [wI, wU, wC]) <;> exact rfl); (focus (simp only [push_cast, seval, e1, hln, List.length_map] <;> first | omega | (simp; done))); dsimp only [S.put, optG]
      repeat (first | apply Wp.seq | apply Wp.block | (apply Run.next; (simp only [push_cast, seval, e1, hln, List.length_map] <;> (try simp (disch := omega) only [wI, wU, wC]) <;> exact rfl); (focus ((try simp only [push_cast, seval, e1, hln, List.length_map]) <;> exact sT))) | ((first | apply Run.nil | apply Wp.skip); dsimp only [sQ, tQ, bQ]) | (apply Wp.run; (dsimp only [List.map] <;> exact rfl); exact rfl) | (apply Wp.exit; dsimp only [sQ, tQ, bQ]; simp only [reduceIte]) | (apply Run.gtrue; (simp only [push_cast, seval, e1, hln, List.length_map] <;> (try simp (disch := omega) only [wI, wU, wC]) <;> exact rfl); (simp only [push_cast, seval, e1, hln, List.length_map] <;> (try simp (disch := omega) only [wI, wU, wC]) <;> exact rfl)) | (apply Run.gfalse (.bool false); (simp only [push_cast, seval, e1, hln, List.length_map] <;> (try simp (disch := omega) only [wI, wU, wC]) <;> exact rfl); dsimp only [S.put, optG]) | (apply Wp.condT; (simp only [push_cast, seval, e1, hln, List.length_map] <;> (try simp (disch := omega) only [wI, wU, wC]) <;> exact rfl)) | (apply Wp.condF; (simp only [push_cast, seval, e1, hln, List.length_map] <;> (try simp (disch := omega) only [wI, wU, wC]) <;> exact rfl)))
      (apply Wp.ret; (try dsimp only [sQ, tQ, bQ]); apply leave0; exact rfl; (simp only [push_cast, seval, e1, hln, List.length_map] <;> (try simp (disch := omega) only [wI, wU, wC]) <;> exact rfl); all_goals (try simp only [push_cast, seval, e1, hln, List.length_map]); (try rfl))
      rw [List.take_of_length_le (by omega)]
theorem rShift_pure (b : ByteArray) (n : Int) : Pure Try.prog 43 [.str b, .int n] (.tup [.str (shiftV b n).1, .int (shiftV b n).2]) := by
  have hw := refWithin_pure n (-100) 100
  unfold shiftV
  by_cases h1 : 200 < (b.size : Int)
  · have e1 : decide (200 < (b.size : Int)) = true := decide_eq_true h1
    rw [if_pos h1]
    (refine Spec.of_body Try.func43 rfl (by rw [Try.ntmps43]; simp) 0 (by simp) ?_; rw [Try.results43, Try.ntmps43]; simp only [entry, zipArgs, Nat.reduceAdd])
    repeat (first | apply Wp.seq | apply Wp.block | (apply Run.next; (simp only [push_cast, seval, e1] <;> (try simp (disch := omega) only [wI, wU, wC]) <;> exact rfl); (focus ((try simp only [push_cast, seval, e1]) <;> exact sT))) | ((first | apply Run.nil | apply Wp.skip); dsimp only [sQ, tQ, bQ]) | (apply Wp.run; (dsimp only [List.map] <;> exact rfl); exact rfl) | (apply Wp.exit; dsimp only [sQ, tQ, bQ]; simp only [reduceIte]) | (apply Run.gtrue; (simp only [push_cast, seval, e1] <;> (try simp (disch := omega) only [wI, wU, wC]) <;> exact rfl); (simp only [push_cast, seval, e1] <;> (try simp (disch := omega) only [wI, wU, wC]) <;> exact rfl)) | (apply Run.gfalse (.bool false); (simp only [push_cast, seval, e1] <;> (try simp (disch := omega) only [wI, wU, wC]) <;> exact rfl); dsimp only [S.put, optG]) | (apply Wp.condT; (simp only [push_cast, seval, e1] <;> (try simp (disch := omega) only [wI, wU, wC]) <;> exact rfl)) | (apply Wp.condF; (simp only [push_cast, seval, e1] <;> (try simp (disch := omega) only [wI, wU, wC]) <;> exact rfl)))
    (apply Wp.ret; (try dsimp only [sQ, tQ, bQ]); apply leave0; exact rfl; (simp only [push_cast, seval, e1] <;> (try simp (disch := omega) only [wI, wU, wC]) <;> exact rfl); all_goals (try simp only [push_cast, seval, e1]); (try rfl))
  · have e1 : decide (200 < (b.size : Int)) = false := decide_eq_false h1
    rw [if_neg h1]
    cases h2 : (decide (-100 ≤ n) && decide (n ≤ 100)) with
    | true =>
      rw [h2] at hw
      rw [if_pos rfl]
      simp only [Bool.and_eq_true, decide_eq_true_eq] at h2
      have hs := rshift_pure b n (by omega) (by omega)
      (refine Spec.of_body Try.func43 rfl (by rw [Try.ntmps43]; simp) 0 (by simp) ?_; rw [Try.results43, Try.ntmps43]; simp only [entry, zipArgs, Nat.reduceAdd])
      repeat (first | apply Wp.seq | apply Wp.block | (apply Run.next; (simp only [push_cast, seval, e1] <;> (try simp (disch := omega) only [wI, wU, wC]) <;> exact rfl); (focus ((try simp only [push_cast, seval, e1]) <;> exact sT))) | ((first | apply Run.nil | apply Wp.skip); dsimp only [sQ, tQ, bQ]) | (apply Wp.run; (dsimp only [List.map] <;> exact rfl); exact rfl) | (apply Wp.exit; dsimp only [sQ, tQ, bQ]; simp only [reduceIte]) | (apply Run.gtrue; (simp only [push_cast, seval, e1] <;> (try simp (disch := omega) only [wI, wU, wC]) <;> exact rfl); (simp only [push_cast, seval, e1] <;> (try simp (disch := omega) only [wI, wU, wC]) <;> exact rfl)) | (apply Run.gfalse (.bool false); (simp only [push_cast, seval, e1] <;> (try simp (disch := omega) only [wI, wU, wC]) <;> exact rfl); dsimp only [S.put, optG]) | (apply Wp.condT; (simp only [push_cast, seval, e1] <;> (try simp (disch := omega) only [wI, wU, wC]) <;> exact rfl)) | (apply Wp.condF; (simp only [push_cast, seval, e1] <;> (try simp (disch := omega) only [wI, wU, wC]) <;> exact rfl)))
      (apply Run.pureP; (simp only [push_cast, seval, e1] <;> (try simp (disch := omega) only [wI, wU, wC]) <;> exact rfl); (exact (Enters.of Try.func56 rfl rfl)); (exact hw); (focus (simp only [push_cast, seval, e1] <;> first | trivial | assumption | (refine ⟨?_, ?_⟩ <;> assumption) | (simp; done))); (try dsimp only [putA, optG]))
      repeat (first | apply Wp.seq | apply Wp.block | (apply Run.next; (simp only [push_cast, seval, e1] <;> (try simp (disch := omega) only [wI, wU, wC]) <;> exact rfl); (focus ((try simp only [push_cast, seval, e1]) <;> exact sT))) | ((first | apply Run.nil | apply Wp.skip); dsimp only [sQ, tQ, bQ]) | (apply Wp.run; (dsimp only [List.map] <;> exact rfl); exact rfl) | (apply Wp.exit; dsimp only [sQ, tQ, bQ]; simp only [reduceIte]) | (apply Run.gtrue; (simp only [push_cast, seval, e1] <;> (try simp (disch := omega) only [wI, wU, wC]) <;> exact rfl); (simp only [push_cast, seval, e1] <;> (try simp (disch := omega) only [wI, wU, wC]) <;> exact rfl)) | (apply Run.gfalse (.bool false); (simp only [push_cast, seval, e1] <;> (try simp (disch := omega) only [wI, wU, wC]) <;> exact rfl); dsimp only [S.put, optG]) | (apply Wp.condT; (simp only [push_cast, seval, e1] <;> (try simp (disch := omega) only [wI, wU, wC]) <;> exact rfl)) | (apply Wp.condF; (simp only [push_cast, seval, e1] <;> (try simp (disch := omega) only [wI, wU, wC]) <;> exact rfl)))
      (apply Run.pureP; (simp only [push_cast, seval, e1] <;> (try simp (disch := omega) only [wI, wU, wC]) <;> exact rfl); (exact (Enters.of Try.func87 rfl rfl)); (exact hs); (focus (simp only [push_cast, seval, e1] <;> first | trivial | assumption | (refine ⟨?_, ?_⟩ <;> assumption) | (simp; done))); (try dsimp only [putA, optG]))
      repeat (first | apply Wp.seq | apply Wp.block | (apply Run.next; (simp only [push_cast, seval, e1] <;> (try simp (disch := omega) only [wI, wU, wC]) <;> exact rfl); (focus ((try simp only [push_cast, seval, e1]) <;> exact sT))) | ((first | apply Run.nil | apply Wp.skip); dsimp only [sQ, tQ, bQ]) | (apply Wp.run; (dsimp only [List.map] <;> exact rfl); exact rfl) | (apply Wp.exit; dsimp only [sQ, tQ, bQ]; simp only [reduceIte]) | (apply Run.gtrue; (simp only [push_cast, seval, e1] <;> (try simp (disch := omega) only [wI, wU, wC]) <;> exact rfl); (simp only [push_cast, seval, e1] <;> (try simp (disch := omega) only [wI, wU, wC]) <;> exact rfl)) | (apply Run.gfalse (.bool false); (simp only [push_cast, seval, e1] <;> (try simp (disch := omega) only [wI, wU, wC]) <;> exact rfl); dsimp only [S.put, optG]) | (apply Wp.condT; (simp only [push_cast, seval, e1] <;> (try simp (disch := omega) only [wI, wU, wC]) <;> exact rfl)) | (apply Wp.condF; (simp only [push_cast, seval, e1] <;> (try simp (disch := omega) only [wI, wU, wC]) <;> exact rfl)))
      (apply Wp.ret; (try dsimp only [sQ, tQ, bQ]); apply leave0; exact rfl; (simp only [push_cast, seval, e1] <;> (try simp (disch := omega) only [wI, wU, wC]) <;> exact rfl); all_goals (try simp only [push_cast, seval, e1]); (try rfl))
    | false =>
      rw [h2] at hw
      rw [if_neg (by simp)]
      (refine Spec.of_body Try.func43 rfl (by rw [Try.ntmps43]; simp) 0 (by simp) ?_; rw [Try.results43, Try.ntmps43]; simp only [entry, zipArgs, Nat.reduceAdd])
      repeat (first | apply Wp.seq | apply Wp.block | (apply Run.next; (simp only [push_cast, seval, e1] <;> (try simp (disch := omega) only [wI, wU, wC]) <;> exact rfl); (focus ((try simp only [push_cast, seval, e1]) <;> exact sT))) | ((first | apply Run.nil | apply Wp.skip); dsimp only [sQ, tQ, bQ]) | (apply Wp.run; (dsimp only [List.map] <;> exact rfl); exact rfl) | (apply Wp.exit; dsimp only [sQ, tQ, bQ]; simp only [reduceIte]) | (apply Run.gtrue; (simp only [push_cast, seval, e1] <;> (try simp (disch := omega) only [wI, wU, wC]) <;> exact rfl); (simp only [push_cast, seval, e1] <;> (try simp (disch := omega) only [wI, wU, wC]) <;> exact rfl)) | (apply Run.gfalse (.bool false); (simp only [push_cast, seval, e1] <;> (try simp (disch := omega) only [wI, wU, wC]) <;> exact rfl); dsimp only [S.put, optG]) | (apply Wp.condT; (simp only [push_cast, seval, e1] <;> (try simp (disch := omega) only [wI, wU, wC]) <;> exact rfl)) | (apply Wp.condF; (simp only [push_cast, seval, e1] <;> (try simp (disch := omega) only [wI, wU, wC]) <;> exact rfl)))
      (apply Run.pureP; (simp only [push_cast, seval, e1] <;> (try simp (disch := omega) only [wI, wU, wC]) <;> exact rfl); (exact (Enters.of Try.func56 rfl rfl)); (exact hw); (focus (simp only [push_cast, seval, e1] <;> first | trivial | assumption | (refine ⟨?_, ?_⟩ <;> assumption) | (simp; done))); (try dsimp only [putA, optG]))
      repeat (first | apply Wp.seq | apply Wp.block | (apply Run.next; (simp only [push_cast, seval, e1] <;> (try simp (disch := omega) only [wI, wU, wC]) <;> exact rfl); (focus ((try simp only [push_cast, seval, e1]) <;> exact sT))) | ((first | apply Run.nil | apply Wp.skip); dsimp only [sQ, tQ, bQ]) | (apply Wp.run; (dsimp only [List.map] <;> exact rfl); exact rfl) | (apply Wp.exit; dsimp only [sQ, tQ, bQ]; simp only [reduceIte]) | (apply Run.gtrue; (simp only [push_cast, seval, e1] <;> (try simp (disch := omega) only [wI, wU, wC]) <;> exact rfl); (simp only [push_cast, seval, e1] <;> (try simp (disch := omega) only [wI, wU, wC]) <;> exact rfl)) | (apply Run.gfalse (.bool false); (simp only [push_cast, seval, e1] <;> (try simp (disch := omega) only [wI, wU, wC]) <;> exact rfl); dsimp only [S.put, optG]) | (apply Wp.condT; (simp only [push_cast, seval, e1] <;> (try simp (disch := omega) only [wI, wU, wC]) <;> exact rfl)) | (apply Wp.condF; (simp only [push_cast, seval, e1] <;> (try simp (disch := omega) only [wI, wU, wC]) <;> exact rfl)))
      (apply Wp.ret; (try dsimp only [sQ, tQ, bQ]); apply leave0; exact rfl; (simp only [push_cast, seval, e1] <;> (try simp (disch := omega) only [wI, wU, wC]) <;> exact rfl); all_goals (try simp only [push_cast, seval, e1]); (try rfl))
end Go.Proofs.Try
