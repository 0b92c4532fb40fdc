/- A part of the proof of PuzzlesThrough: contracts of functions, with plain laws that they need. -/
import Derived.Test.YtcpmcebdolcldaaVgX8J
set_option linter.all false
set_option maxHeartbeats 4000000
namespace Go.Proofs.Try
open Go.Vg

/-! bits: what the operations yield -/
theorem beside_pure (w h n side : Int) (hw : 1 ≤ w ∧ w ≤ 1000) (hh : 1 ≤ h ∧ h ≤ 1000) (hn : 0 ≤ n ∧ n ≤ 1000) : Pure Try.prog 59 [.agg [.int w, .int h], .int n, .int side] (.tup [.int (bsd w n side), .bool (bsdB w h n side)]) := by
  obtain ⟨b1, b2, b3, b4⟩ := bxy_bnd (side := side) hw hn
  have b5 := bsd_bnd (side := side) hw hn
  have a1 := Int.tmod_nonneg w hn.1
  have a2 := Int.tmod_lt_of_pos n (b := w) (by omega)
  have a3 := Int.tdiv_nonneg hn.1 (by omega : 0 ≤ w)
  have a4 := Int.tdiv_le_self w hn.1
  (refine Spec.of_body Try.func59 rfl (by rw [Try.ntmps59]; simp) 0 (by simp) ?_; rw [Try.results59, Try.ntmps59]; simp only [entry, zipArgs, Nat.reduceAdd])
  repeat (first | apply Wp.seq | apply Wp.block | (apply Run.next; (simp only [push_cast, seval] <;> (try simp (disch := omega) only [wI, wU, wC]) <;> exact rfl); (focus ((try simp only [push_cast, seval]) <;> exact sT))) | ((first | apply Run.nil | apply Wp.skip); dsimp only [sQ, tQ, bQ]) | (apply Wp.run; (dsimp only [List.map] <;> exact rfl); exact rfl) | (apply Wp.exit; dsimp only [sQ, tQ, bQ]; simp only [reduceIte]))
  (apply Wp.runD 10 mixed; (dsimp only [List.map] <;> exact rfl); exact rfl; kernel_rfl; (dsimp only [List.take] <;> exact rfl); (dsimp only [List.drop] <;> exact rfl); (((repeat (apply Abn.next; (simp only [push_cast, seval] <;> (try simp (disch := omega) only [wI, wU, wC]) <;> exact rfl); (focus ((try simp only [push_cast, seval]) <;> exact sT))))); exact Abn.nil))
  (apply Run.nil; dsimp only [sQ, tQ, bQ])
  apply Wp.cutS { t := [(0, .agg [.int w, .int h]), (1, .int n), (2, .int side), (3, .optr 0 0 0 0), (8, .int (bxy w n side).1), (9, .int (bxy w n side).2)], m := [⟨0, .row 2 [.agg [.int w, .int h]]⟩], n := 53 }
  · repeat (first | apply Wp.seq | apply Wp.block | (apply Run.next; (simp only [push_cast, seval] <;> (try simp (disch := omega) only [wI, wU, wC]) <;> exact rfl); (focus ((try simp only [push_cast, seval]) <;> exact sT))) | ((first | apply Run.nil | apply Wp.skip); dsimp only [sQ, tQ, bQ]) | (apply Wp.run; (dsimp only [List.map] <;> exact rfl); exact rfl) | (apply Wp.exit; dsimp only [sQ, tQ, bQ]; simp only [reduceIte]))
    (apply Wp.cond; (simp only [push_cast, seval] <;> (try simp (disch := omega) only [wI, wU, wC]) <;> exact rfl))
    · intro h1
      simp only [decide_eq_true_eq] at h1
      repeat (first | apply Wp.seq | apply Wp.block | (apply Run.next; (simp only [push_cast, seval] <;> (try simp (disch := omega) only [wI, wU, wC]) <;> exact rfl); (focus ((try simp only [push_cast, seval]) <;> exact sT))) | ((first | apply Run.nil | apply Wp.skip); dsimp only [sQ, tQ, bQ]) | (apply Wp.run; (dsimp only [List.map] <;> exact rfl); exact rfl) | (apply Wp.exit; dsimp only [sQ, tQ, bQ]; simp only [reduceIte]))
      refine ⟨rfl, ?_⟩
      (refine Le.of ?_ ?_ rfl rfl <;> (try simp only [push_cast, seval]) <;> (try (with_reducible rfl)))
      simp [bxy, h1]
    · intro h1
      simp only [decide_eq_false_iff_not] at h1
      repeat (first | apply Wp.seq | apply Wp.block | (apply Run.next; (simp only [push_cast, seval] <;> (try simp (disch := omega) only [wI, wU, wC]) <;> exact rfl); (focus ((try simp only [push_cast, seval]) <;> exact sT))) | ((first | apply Run.nil | apply Wp.skip); dsimp only [sQ, tQ, bQ]) | (apply Wp.run; (dsimp only [List.map] <;> exact rfl); exact rfl) | (apply Wp.exit; dsimp only [sQ, tQ, bQ]; simp only [reduceIte]))
      (apply Wp.cond; (simp only [push_cast, seval] <;> (try simp (disch := omega) only [wI, wU, wC]) <;> exact rfl))
      · intro h2
        simp only [decide_eq_true_eq] at h2
        repeat (first | apply Wp.seq | apply Wp.block | (apply Run.next; (simp only [push_cast, seval] <;> (try simp (disch := omega) only [wI, wU, wC]) <;> exact rfl); (focus ((try simp only [push_cast, seval]) <;> exact sT))) | ((first | apply Run.nil | apply Wp.skip); dsimp only [sQ, tQ, bQ]) | (apply Wp.run; (dsimp only [List.map] <;> exact rfl); exact rfl) | (apply Wp.exit; dsimp only [sQ, tQ, bQ]; simp only [reduceIte]))
        refine ⟨rfl, ?_⟩
        (refine Le.of ?_ ?_ rfl rfl <;> (try simp only [push_cast, seval]) <;> (try (with_reducible rfl)))
        simp [bxy, h2]
      · intro h2
        simp only [decide_eq_false_iff_not] at h2
        repeat (first | apply Wp.seq | apply Wp.block | (apply Run.next; (simp only [push_cast, seval] <;> (try simp (disch := omega) only [wI, wU, wC]) <;> exact rfl); (focus ((try simp only [push_cast, seval]) <;> exact sT))) | ((first | apply Run.nil | apply Wp.skip); dsimp only [sQ, tQ, bQ]) | (apply Wp.run; (dsimp only [List.map] <;> exact rfl); exact rfl) | (apply Wp.exit; dsimp only [sQ, tQ, bQ]; simp only [reduceIte]))
        (apply Wp.cond; (simp only [push_cast, seval] <;> (try simp (disch := omega) only [wI, wU, wC]) <;> exact rfl))
        · intro h3
          simp only [decide_eq_true_eq] at h3
          repeat (first | apply Wp.seq | apply Wp.block | (apply Run.next; (simp only [push_cast, seval] <;> (try simp (disch := omega) only [wI, wU, wC]) <;> exact rfl); (focus ((try simp only [push_cast, seval]) <;> exact sT))) | ((first | apply Run.nil | apply Wp.skip); dsimp only [sQ, tQ, bQ]) | (apply Wp.run; (dsimp only [List.map] <;> exact rfl); exact rfl) | (apply Wp.exit; dsimp only [sQ, tQ, bQ]; simp only [reduceIte]))
          refine ⟨rfl, ?_⟩
          (refine Le.of ?_ ?_ rfl rfl <;> (try simp only [push_cast, seval]) <;> (try (with_reducible rfl)))
          simp [bxy, h3]
        · intro h3
          simp only [decide_eq_false_iff_not] at h3
          repeat (first | apply Wp.seq | apply Wp.block | (apply Run.next; (simp only [push_cast, seval] <;> (try simp (disch := omega) only [wI, wU, wC]) <;> exact rfl); (focus ((try simp only [push_cast, seval]) <;> exact sT))) | ((first | apply Run.nil | apply Wp.skip); dsimp only [sQ, tQ, bQ]) | (apply Wp.run; (dsimp only [List.map] <;> exact rfl); exact rfl) | (apply Wp.exit; dsimp only [sQ, tQ, bQ]; simp only [reduceIte]))
          (apply Wp.cond; (simp only [push_cast, seval] <;> (try simp (disch := omega) only [wI, wU, wC]) <;> exact rfl))
          · intro h4
            simp only [decide_eq_true_eq] at h4
            repeat (first | apply Wp.seq | apply Wp.block | (apply Run.next; (simp only [push_cast, seval] <;> (try simp (disch := omega) only [wI, wU, wC]) <;> exact rfl); (focus ((try simp only [push_cast, seval]) <;> exact sT))) | ((first | apply Run.nil | apply Wp.skip); dsimp only [sQ, tQ, bQ]) | (apply Wp.run; (dsimp only [List.map] <;> exact rfl); exact rfl) | (apply Wp.exit; dsimp only [sQ, tQ, bQ]; simp only [reduceIte]))
            refine ⟨rfl, ?_⟩
            (refine Le.of ?_ ?_ rfl rfl <;> (try simp only [push_cast, seval]) <;> (try (with_reducible rfl)))
            simp [bxy, h4]
          · intro h4
            simp only [decide_eq_false_iff_not] at h4
            repeat (first | apply Wp.seq | apply Wp.block | (apply Run.next; (simp only [push_cast, seval] <;> (try simp (disch := omega) only [wI, wU, wC]) <;> exact rfl); (focus ((try simp only [push_cast, seval]) <;> exact sT))) | ((first | apply Run.nil | apply Wp.skip); dsimp only [sQ, tQ, bQ]) | (apply Wp.run; (dsimp only [List.map] <;> exact rfl); exact rfl) | (apply Wp.exit; dsimp only [sQ, tQ, bQ]; simp only [reduceIte]))
            refine ⟨rfl, ?_⟩
            (refine Le.of ?_ ?_ rfl rfl <;> (try simp only [push_cast, seval]) <;> (try (with_reducible rfl)))
            simp [bxy, h1, h2, h3, h4]
  · clear a1 a2 a3 a4
    apply Wp.seq
    (apply Wp.runD 20 mixed; (dsimp only [List.map] <;> exact rfl); exact rfl; kernel_rfl; (dsimp only [List.take] <;> exact rfl); (dsimp only [List.drop] <;> exact rfl); (((repeat (apply Abn.next; (simp only [push_cast, seval] <;> (try simp (disch := omega) only [wI, wU, wC]) <;> exact rfl); (focus ((try simp only [push_cast, seval]) <;> exact sT)))); (apply Abn.pureP; (simp only [push_cast, seval] <;> (try simp (disch := omega) only [wI, wU, wC]) <;> exact rfl); (exact (Enters.of Try.func24 rfl rfl)); (exact within_pure _ _ _); (focus (simp only [push_cast, seval] <;> first | trivial | assumption | (refine ⟨?_, ?_⟩ <;> assumption) | (simp; done))); (try dsimp only [putA, optG])); (repeat (apply Abn.next; (simp only [push_cast, seval] <;> (try simp (disch := omega) only [wI, wU, wC]) <;> exact rfl); (focus ((try simp only [push_cast, seval]) <;> exact sT)))); (apply Abn.pureP; (simp only [push_cast, seval] <;> (try simp (disch := omega) only [wI, wU, wC]) <;> exact rfl); (exact (Enters.of Try.func24 rfl rfl)); (exact within_pure _ _ _); (focus (simp only [push_cast, seval] <;> first | trivial | assumption | (refine ⟨?_, ?_⟩ <;> assumption) | (simp; done))); (try dsimp only [putA, optG])); (repeat (apply Abn.next; (simp only [push_cast, seval] <;> (try simp (disch := omega) only [wI, wU, wC]) <;> exact rfl); (focus ((try simp only [push_cast, seval]) <;> exact sT))))); exact Abn.nil))
    repeat (first | apply Wp.seq | apply Wp.block | (apply Run.next; (simp only [push_cast, seval] <;> (try simp (disch := omega) only [wI, wU, wC]) <;> exact rfl); (focus ((try simp only [push_cast, seval]) <;> exact sT))) | ((first | apply Run.nil | apply Wp.skip); dsimp only [sQ, tQ, bQ]) | (apply Wp.run; (dsimp only [List.map] <;> exact rfl); exact rfl) | (apply Wp.exit; dsimp only [sQ, tQ, bQ]; simp only [reduceIte]))
    (apply Wp.ret; (try dsimp only [sQ, tQ, bQ]); apply leave0; exact rfl; (simp only [push_cast, seval] <;> (try simp (disch := omega) only [wI, wU, wC]) <;> exact rfl); all_goals (try simp only [push_cast, seval]); (try rfl))

end Go.Proofs.Try
set_option maxHeartbeats 4000000
namespace Go.Proofs.Try
open Go.Vg

/-! a ball rolls -/
section
variable (w h : Int) (W : List Bool)
def nxC (c s : Nat) : Option Nat := if bsdB w h c s = true then (if W.getD (bsd w c s).toNat false = true then none else some (bsd w c s).toNat) else none
def muC (c s : Nat) : Nat := if s = 0 then ((c : Int).tdiv w).toNat else if s = 1 then (w - 1 - (c : Int).tmod w).toNat else if s = 2 then (h - 1 - (c : Int).tdiv w).toNat else ((c : Int).tmod w).toNat
def rlF : Nat → Nat → Nat → Nat
  | 0, c, _ => c
  | f + 1, c, s => match nxC w h W c s with
    | none => c
    | some k => rlF f k s
def rlC (c s : Nat) : Nat := rlF w h W 70 c s
end
structure MZ (w h : Int) (W : List Bool) : Prop where
  w1 : 1 ≤ w ∧ w ≤ 64
  h1 : 1 ≤ h ∧ h ≤ 64
  n1 : (W.length : Int) = w * h
  n2 : W.length ≤ 64
section
variable {w h : Int} {W : List Bool}
theorem divmod {w x y : Int} (hw : 1 ≤ w) (hx : 0 ≤ x ∧ x ≤ w - 1) (hy : 0 ≤ y) : (y * w + x).tmod w = x ∧ (y * w + x).tdiv w = y := by
  have h0 : 0 ≤ y * w := Int.mul_nonneg hy (by omega)
  have hn : 0 ≤ y * w + x := by omega
  rw [Int.tmod_eq_emod_of_nonneg hn, Int.tdiv_eq_ediv_of_nonneg hn]
  constructor
  · rw [Int.add_comm, Int.add_mul_emod_self_right]
    exact Int.emod_eq_of_lt hx.1 (by omega)
  · rw [Int.add_comm, Int.add_mul_ediv_right _ _ (by omega), Int.ediv_eq_zero_of_lt hx.1 (by omega), Int.zero_add]
theorem mu_dec {c s : Nat} (hw : 1 ≤ w) (hs : s < 4) (hb : bsdB w h c s = true) : muC w h (bsd w c s).toNat s < muC w h c s := by
  have hr := bsd_range hw hb
  have hk : (((bsd w c s).toNat : Nat) : Int) = bsd w c s := Int.toNat_of_nonneg hr.1
  simp only [bsdB, Bool.and_eq_true, decide_eq_true_eq] at hb
  obtain ⟨⟨a, b⟩, p, q⟩ := hb
  obtain ⟨e1, e2⟩ := divmod (w := w) hw ⟨a, b⟩ p
  have e1 : ((((bsd w c s).toNat : Nat) : Int)).tmod w = (bxy w c s).1 := by rw [hk]; exact e1
  have e2 : ((((bsd w c s).toNat : Nat) : Int)).tdiv w = (bxy w c s).2 := by rw [hk]; exact e2
  unfold muC
  rw [e1, e2]
  have c0 : s = 0 ∨ s = 1 ∨ s = 2 ∨ s = 3 := by omega
  rcases c0 with rfl | rfl | rfl | rfl
  · simp [bxy] at a b p q ⊢; omega
  · simp [bxy] at a b p q ⊢; omega
  · simp [bxy] at a b p q ⊢; omega
  · simp [bxy] at a b p q ⊢; omega
theorem nxC_some {c s k : Nat} (hz : MZ w h W) (hn : nxC w h W c s = some k) : bsdB w h c s = true ∧ (k : Int) = bsd w c s ∧ k < W.length ∧ W.getD k false = false := by
  unfold nxC at hn
  split at hn
  · rename_i hb
    split at hn
    · cases hn
    · rename_i hw
      have hr := bsd_range hz.w1.1 hb
      cases hn
      have := hz.n1
      exact ⟨hb, by omega, by omega, by simpa using hw⟩
  · cases hn
theorem nx_dec {c s k : Nat} (hz : MZ w h W) (hs : s < 4) (hn : nxC w h W c s = some k) : muC w h k s < muC w h c s := by
  obtain ⟨h1, h2, _, _⟩ := nxC_some hz hn
  have := mu_dec hz.w1.1 hs h1
  rwa [← h2, Int.toNat_natCast] at this
theorem rlF_more (hz : MZ w h W) {s : Nat} (hs : s < 4) : ∀ (f c : Nat), muC w h c s < f → rlF w h W (f + 1) c s = rlF w h W f c s
  | 0, c, hf => by omega
  | f + 1, c, hf => by
    cases hn : nxC w h W c s with
    | none => simp only [rlF, hn]
    | some k =>
      have hd := nx_dec hz hs hn
      have e1 : rlF w h W (f + 1 + 1) c s = rlF w h W (f + 1) k s := by simp only [rlF, hn]
      have e2 : rlF w h W (f + 1) c s = rlF w h W f k s := by simp only [rlF, hn]
      rw [e1, e2]
      exact rlF_more hz hs f k (by omega)
theorem mu_le (hz : MZ w h W) {c s : Nat} (hc : c < W.length) : muC w h c s < 65 := by
  have h1 := hz.w1
  have h2 := hz.h1
  have h3 := hz.n2
  have a1 := Int.tmod_nonneg w (by omega : (0 : Int) ≤ (c : Int))
  have a3 := Int.tdiv_nonneg (by omega : (0 : Int) ≤ (c : Int)) (by omega : 0 ≤ w)
  have a2 := Int.tmod_lt_of_pos (c : Int) (b := w) (by omega)
  have a4 := Int.tdiv_le_self w (by omega : (0 : Int) ≤ (c : Int))
  unfold muC
  split
  · omega
  split
  · omega
  split
  · omega
  · omega
theorem rl_stop {c s : Nat} (hn : nxC w h W c s = none) : rlC w h W c s = c := by
  unfold rlC
  simp only [rlF, hn]
theorem rl_step (hz : MZ w h W) {c s k : Nat} (hs : s < 4) (hc : c < W.length) (hn : nxC w h W c s = some k) : rlC w h W c s = rlC w h W k s := by
  have hd := nx_dec hz hs hn
  have hm := mu_le hz (s := s) hc
  have e : rlF w h W 70 c s = rlF w h W 69 k s := by simp only [rlF, hn]
  unfold rlC
  rw [e]
  exact (rlF_more hz hs 69 k (by omega)).symm
theorem rlF_cell (hz : MZ w h W) {s : Nat} : ∀ (f c : Nat), c < W.length → W.getD c false = false → rlF w h W f c s < W.length ∧ W.getD (rlF w h W f c s) false = false
  | 0, c, h1, h2 => ⟨h1, h2⟩
  | f + 1, c, h1, h2 => by
    cases hn : nxC w h W c s with
    | none => simp only [rlF, hn]; exact ⟨h1, h2⟩
    | some k =>
      obtain ⟨_, _, h3, h4⟩ := nxC_some hz hn
      have := rlF_cell hz (s := s) f k h3 h4
      simp only [rlF, hn]; exact this
theorem rl_lt (hz : MZ w h W) {c s : Nat} (h1 : c < W.length) : rlC w h W c s < W.length := by
  unfold rlC
  cases hn : nxC w h W c s with
  | none => simp only [rlF, hn]; exact h1
  | some k =>
    obtain ⟨_, _, h3, h4⟩ := nxC_some hz hn
    have := rlF_cell hz (s := s) 69 k h3 h4
    simp only [rlF, hn] at this ⊢; exact this.1
theorem rl_free (hz : MZ w h W) {c s : Nat} (h1 : c < W.length) (h2 : W.getD c false = false) : W.getD (rlC w h W c s) false = false := (rlF_cell hz 70 c h1 h2).2
end
end Go.Proofs.Try
set_option maxHeartbeats 8000000
namespace Go.Proofs.Try
open Go.Vg

abbrev mzA (w h : Int) (W : List Bool) (fr to : Int) : AV := .agg [.int w, .int h, .int w, .int h, .bools W, .int fr, .int to]
abbrev meA (w h : Int) (W : List Bool) (fr to : Int) : AV := .agg [.int w, .int h, .bools W, .int fr, .int to]
theorem roll_pure {w h : Int} {W : List Bool} (hz : MZ w h W) (fr to : Int) (c s : Nat) (hc : c < W.length) (hs : s < 4) : Pure Try.prog 36 [mzA w h W fr to, .int c, .int s] (.int (rlC w h W c s)) := by
  have h1 := hz.w1
  have h2 := hz.h1
  have h3 := hz.n2
  (refine Spec.of_body Try.func36 rfl (by rw [Try.ntmps36]; simp) 0 (by simp) ?_; rw [Try.results36, Try.ntmps36]; simp only [entry, zipArgs, Nat.reduceAdd])
  repeat (first | apply Wp.seq | apply Wp.block | (apply Run.next; (simp only [push_cast, seval] <;> (try simp (disch := omega) only [wI, wU, wC]) <;> exact rfl); (focus ((try simp only [push_cast, seval]) <;> exact sT))) | ((first | apply Run.nil | apply Wp.skip); dsimp only [sQ, tQ, bQ]) | (apply Wp.run; (dsimp only [List.map] <;> exact rfl); exact rfl) | (apply Wp.exit; dsimp only [sQ, tQ, bQ]; simp only [reduceIte]) | (apply Run.gtrue; (simp only [push_cast, seval] <;> (try simp (disch := omega) only [wI, wU, wC]) <;> exact rfl); (simp only [push_cast, seval] <;> (try simp (disch := omega) only [wI, wU, wC]) <;> exact rfl)) | (apply Run.gfalse (.bool false); (simp only [push_cast, seval] <;> (try simp (disch := omega) only [wI, wU, wC]) <;> exact rfl); dsimp only [S.put, optG]) | (apply Wp.condT; (simp only [push_cast, seval] <;> (try simp (disch := omega) only [wI, wU, wC]) <;> exact rfl)) | (apply Wp.condF; (simp only [push_cast, seval] <;> (try simp (disch := omega) only [wI, wU, wC]) <;> exact rfl)))
  refine Wp.loop (fun k : Nat => { t := [(1, .int k), (2, .int s), (3, .optr 0 0 0 0)], m := [⟨0, .row 7 [mzA w h W fr to]⟩], n := 29 }) (fun k => k < W.length ∧ rlC w h W k s = rlC w h W c s) (fun k => muC w h k s) c ?_ ?_ ?_
  · (refine Le.of ?_ ?_ rfl rfl <;> (try simp only [push_cast, seval]) <;> (try (with_reducible rfl)))
  · exact ⟨hc, rfl⟩
  · rintro k ⟨hk, hke⟩
    have hb := beside_pure w h k s (by omega) (by omega) (by omega)
    cases hbb : bsdB w h k s with
    | false =>
      rw [hbb] at hb
      have hn : nxC w h W k s = none := by unfold nxC; rw [if_neg (by rw [hbb]; simp)]
      rw [← hke, rl_stop hn]
      repeat (first | apply Wp.seq | apply Wp.block | (apply Run.next; (simp only [push_cast, seval] <;> (try simp (disch := omega) only [wI, wU, wC]) <;> exact rfl); (focus ((try simp only [push_cast, seval]) <;> exact sT))) | ((first | apply Run.nil | apply Wp.skip); dsimp only [sQ, tQ, bQ]) | (apply Wp.run; (dsimp only [List.map] <;> exact rfl); exact rfl) | (apply Wp.exit; dsimp only [sQ, tQ, bQ]; simp only [reduceIte]) | (apply Run.gtrue; (simp only [push_cast, seval] <;> (try simp (disch := omega) only [wI, wU, wC]) <;> exact rfl); (simp only [push_cast, seval] <;> (try simp (disch := omega) only [wI, wU, wC]) <;> exact rfl)) | (apply Run.gfalse (.bool false); (simp only [push_cast, seval] <;> (try simp (disch := omega) only [wI, wU, wC]) <;> exact rfl); dsimp only [S.put, optG]) | (apply Wp.condT; (simp only [push_cast, seval] <;> (try simp (disch := omega) only [wI, wU, wC]) <;> exact rfl)) | (apply Wp.condF; (simp only [push_cast, seval] <;> (try simp (disch := omega) only [wI, wU, wC]) <;> exact rfl)))
      (apply Run.pureP; (simp only [push_cast, seval] <;> (try simp (disch := omega) only [wI, wU, wC]) <;> exact rfl); (exact (Enters.of Try.func59 rfl rfl)); (exact hb); (focus (simp only [push_cast, seval] <;> first | trivial | assumption | (refine ⟨?_, ?_⟩ <;> assumption) | (simp; done))); (try dsimp only [putA, optG]))
      repeat (first | apply Wp.seq | apply Wp.block | (apply Run.next; (simp only [push_cast, seval] <;> (try simp (disch := omega) only [wI, wU, wC]) <;> exact rfl); (focus ((try simp only [push_cast, seval]) <;> exact sT))) | ((first | apply Run.nil | apply Wp.skip); dsimp only [sQ, tQ, bQ]) | (apply Wp.run; (dsimp only [List.map] <;> exact rfl); exact rfl) | (apply Wp.exit; dsimp only [sQ, tQ, bQ]; simp only [reduceIte]) | (apply Run.gtrue; (simp only [push_cast, seval] <;> (try simp (disch := omega) only [wI, wU, wC]) <;> exact rfl); (simp only [push_cast, seval] <;> (try simp (disch := omega) only [wI, wU, wC]) <;> exact rfl)) | (apply Run.gfalse (.bool false); (simp only [push_cast, seval] <;> (try simp (disch := omega) only [wI, wU, wC]) <;> exact rfl); dsimp only [S.put, optG]) | (apply Wp.condT; (simp only [push_cast, seval] <;> (try simp (disch := omega) only [wI, wU, wC]) <;> exact rfl)) | (apply Wp.condF; (simp only [push_cast, seval] <;> (try simp (disch := omega) only [wI, wU, wC]) <;> exact rfl)))
      (apply Wp.ret; (try dsimp only [sQ, tQ, bQ]); apply leave0; exact rfl; (simp only [push_cast, seval] <;> (try simp (disch := omega) only [wI, wU, wC]) <;> exact rfl); all_goals (try simp only [push_cast, seval]); (try rfl))
    | true =>
      rw [hbb] at hb
      have hr := bsd_range hz.w1.1 hbb
      have hn1 := hz.n1
      obtain ⟨j, hj⟩ : ∃ j : Nat, bsd w k s = (j : Int) := ⟨(bsd w k s).toNat, by omega⟩
      rw [hj] at hb hr
      have hjl : j < W.length := by omega
      cases hw : W.getD j false with
      | true =>
        have hn : nxC w h W k s = none := by unfold nxC; rw [if_pos hbb, hj, Int.toNat_natCast, if_pos hw]
        rw [← hke, rl_stop hn]
        repeat (first | apply Wp.seq | apply Wp.block | (apply Run.next; (simp only [push_cast, seval, hw, List.length_map] <;> (try simp (disch := omega) only [wI, wU, wC]) <;> exact rfl); (focus ((try simp only [push_cast, seval, hw, List.length_map]) <;> exact sT))) | ((first | apply Run.nil | apply Wp.skip); dsimp only [sQ, tQ, bQ]) | (apply Wp.run; (dsimp only [List.map] <;> exact rfl); exact rfl) | (apply Wp.exit; dsimp only [sQ, tQ, bQ]; simp only [reduceIte]) | (apply Run.gtrue; (simp only [push_cast, seval, hw, List.length_map] <;> (try simp (disch := omega) only [wI, wU, wC]) <;> exact rfl); (simp only [push_cast, seval, hw, List.length_map] <;> (try simp (disch := omega) only [wI, wU, wC]) <;> exact rfl)) | (apply Run.gfalse (.bool false); (simp only [push_cast, seval, hw, List.length_map] <;> (try simp (disch := omega) only [wI, wU, wC]) <;> exact rfl); dsimp only [S.put, optG]) | (apply Wp.condT; (simp only [push_cast, seval, hw, List.length_map] <;> (try simp (disch := omega) only [wI, wU, wC]) <;> exact rfl)) | (apply Wp.condF; (simp only [push_cast, seval, hw, List.length_map] <;> (try simp (disch := omega) only [wI, wU, wC]) <;> exact rfl)))
        (apply Run.pureP; (simp only [push_cast, seval, hw, List.length_map] <;> (try simp (disch := omega) only [wI, wU, wC]) <;> exact rfl); (exact (Enters.of Try.func59 rfl rfl)); (exact hb); (focus (simp only [push_cast, seval, hw, List.length_map] <;> first | trivial | assumption | (refine ⟨?_, ?_⟩ <;> assumption) | (simp; done))); (try dsimp only [putA, optG]))
        repeat (first | apply Wp.seq | apply Wp.block | (apply Run.next; (simp only [push_cast, seval, hw, List.length_map] <;> (try simp (disch := omega) only [wI, wU, wC]) <;> exact rfl); (focus ((try simp only [push_cast, seval, hw, List.length_map]) <;> exact sT))) | ((first | apply Run.nil | apply Wp.skip); dsimp only [sQ, tQ, bQ]) | (apply Wp.run; (dsimp only [List.map] <;> exact rfl); exact rfl) | (apply Wp.exit; dsimp only [sQ, tQ, bQ]; simp only [reduceIte]) | (apply Run.gtrue; (simp only [push_cast, seval, hw, List.length_map] <;> (try simp (disch := omega) only [wI, wU, wC]) <;> exact rfl); (simp only [push_cast, seval, hw, List.length_map] <;> (try simp (disch := omega) only [wI, wU, wC]) <;> exact rfl)) | (apply Run.gfalse (.bool false); (simp only [push_cast, seval, hw, List.length_map] <;> (try simp (disch := omega) only [wI, wU, wC]) <;> exact rfl); dsimp only [S.put, optG]) | (apply Wp.condT; (simp only [push_cast, seval, hw, List.length_map] <;> (try simp (disch := omega) only [wI, wU, wC]) <;> exact rfl)) | (apply Wp.condF; (simp only [push_cast, seval, hw, List.length_map] <;> (try simp (disch := omega) only [wI, wU, wC]) <;> exact rfl)))
        (apply Wp.ret; (try dsimp only [sQ, tQ, bQ]); apply leave0; exact rfl; (simp only [push_cast, seval, hw, List.length_map] <;> (try simp (disch := omega) only [wI, wU, wC]) <;> exact rfl); all_goals (try simp only [push_cast, seval, hw, List.length_map]); (try rfl))
      | false =>
        have hn : nxC w h W k s = some j := by unfold nxC; rw [if_pos hbb, hj, Int.toNat_natCast, if_neg (by rw [hw]; simp)]
        repeat (first | apply Wp.seq | apply Wp.block | (apply Run.next; (simp only [push_cast, seval, hw, List.length_map] <;> (try simp (disch := omega) only [wI, wU, wC]) <;> exact rfl); (focus ((try simp only [push_cast, seval, hw, List.length_map]) <;> exact sT))) | ((first | apply Run.nil | apply Wp.skip); dsimp only [sQ, tQ, bQ]) | (apply Wp.run; (dsimp only [List.map] <;> exact rfl); exact rfl) | (apply Wp.exit; dsimp only [sQ, tQ, bQ]; simp only [reduceIte]) | (apply Run.gtrue; (simp only [push_cast, seval, hw, List.length_map] <;> (try simp (disch := omega) only [wI, wU, wC]) <;> exact rfl); (simp only [push_cast, seval, hw, List.length_map] <;> (try simp (disch := omega) only [wI, wU, wC]) <;> exact rfl)) | (apply Run.gfalse (.bool false); (simp only [push_cast, seval, hw, List.length_map] <;> (try simp (disch := omega) only [wI, wU, wC]) <;> exact rfl); dsimp only [S.put, optG]) | (apply Wp.condT; (simp only [push_cast, seval, hw, List.length_map] <;> (try simp (disch := omega) only [wI, wU, wC]) <;> exact rfl)) | (apply Wp.condF; (simp only [push_cast, seval, hw, List.length_map] <;> (try simp (disch := omega) only [wI, wU, wC]) <;> exact rfl)))
        (apply Run.pureP; (simp only [push_cast, seval, hw, List.length_map] <;> (try simp (disch := omega) only [wI, wU, wC]) <;> exact rfl); (exact (Enters.of Try.func59 rfl rfl)); (exact hb); (focus (simp only [push_cast, seval, hw, List.length_map] <;> first | trivial | assumption | (refine ⟨?_, ?_⟩ <;> assumption) | (simp; done))); (try dsimp only [putA, optG]))
        repeat (first | apply Wp.seq | apply Wp.block | (apply Run.next; (simp only [push_cast, seval, hw, List.length_map] <;> (try simp (disch := omega) only [wI, wU, wC]) <;> exact rfl); (focus ((try simp only [push_cast, seval, hw, List.length_map]) <;> exact sT))) | ((first | apply Run.nil | apply Wp.skip); dsimp only [sQ, tQ, bQ]) | (apply Wp.run; (dsimp only [List.map] <;> exact rfl); exact rfl) | (apply Wp.exit; dsimp only [sQ, tQ, bQ]; simp only [reduceIte]) | (apply Run.gtrue; (simp only [push_cast, seval, hw, List.length_map] <;> (try simp (disch := omega) only [wI, wU, wC]) <;> exact rfl); (simp only [push_cast, seval, hw, List.length_map] <;> (try simp (disch := omega) only [wI, wU, wC]) <;> exact rfl)) | (apply Run.gfalse (.bool false); (simp only [push_cast, seval, hw, List.length_map] <;> (try simp (disch := omega) only [wI, wU, wC]) <;> exact rfl); dsimp only [S.put, optG]) | (apply Wp.condT; (simp only [push_cast, seval, hw, List.length_map] <;> (try simp (disch := omega) only [wI, wU, wC]) <;> exact rfl)) | (apply Wp.condF; (simp only [push_cast, seval, hw, List.length_map] <;> (try simp (disch := omega) only [wI, wU, wC]) <;> exact rfl)))
        refine ⟨j, ?_, ⟨hjl, by rw [← rl_step hz hs hk hn]; exact hke⟩, nx_dec hz hs hn⟩
        (refine Le.of ?_ ?_ rfl rfl <;> (try simp only [push_cast, seval, hw, List.length_map]) <;> (try (with_reducible rfl)))
end Go.Proofs.Try
