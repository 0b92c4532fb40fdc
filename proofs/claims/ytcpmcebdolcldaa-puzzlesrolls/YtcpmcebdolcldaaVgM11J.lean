/- A part of the proof of PuzzlesRolls: contracts of functions, with plain laws that they need. -/
import Derived.Test.YtcpmcebdolcldaaVgM7J
set_option linter.all false
set_option maxHeartbeats 8000000
set_option maxRecDepth 20000
namespace Go.Proofs.Try
open Go.Vg

/-! the document's far -/
def lf (n : Nat) (f : Nat → Int) : List Int := (List.range n).map f
theorem lf_len (n : Nat) (f : Nat → Int) : (lf n f).length = n := by simp [lf]
theorem lf_getD (n : Nat) (f : Nat → Int) {c : Nat} (h : c < n) : (lf n f).getD c 0 = f c := by simp [lf, h]
theorem lf_congr {n : Nat} {f g : Nat → Int} (h : ∀ c, c < n → f c = g c) : lf n f = lf n g := by
  unfold lf
  exact List.map_congr_left fun c hc => h c (List.mem_range.1 hc)
theorem lf_set (n : Nat) (f : Nat → Int) (k : Nat) (x : Int) : (lf n f).set k x = lf n fun c => if c = k then x else f c := by
  apply List.ext_getElem?
  intro i
  by_cases hi : i < n
  · rw [List.getElem?_set]
    by_cases hk : k = i
    · subst hk; simp [lf, hi]
    · simp [lf, hi, hk, Ne.symm hk]
  · rw [List.getElem?_eq_none (by simp [lf]; omega), List.getElem?_eq_none (by simp [lf]; omega)]
def wlB (W : List Bool) (c : Nat) : Bool := W.getD c false
def farL (w h : Int) (W : List Bool) (b : Nat) : List Int := lf W.length (farF (rlC w h W) (wlB W) b W.length)
def mixF (R : Nat → Nat → Nat) (wl : Nat → Bool) (b s c x : Nat) : Int := if x < c then farF R wl b (s + 1) x else farF R wl b s x
theorem mix_eq {R : Nat → Nat → Nat} {wl : Nat → Bool} {b s c x : Nat} : mixF R wl b s c x = (s : Int) ↔ farF R wl b s x = (s : Int) := by
  unfold mixF
  split
  · by_cases h : 0 ≤ farF R wl b s x
    · rw [far_keep R wl b h]
    · have := far_range R wl b (s + 1) x
      constructor
      · intro h2
        exfalso
        rw [farF] at h2
        split at h2 <;> omega
      · intro h2; omega
  · exact Iff.rfl
theorem far_pure {w h : Int} {W : List Bool} (hz : MZ w h W) (fr : Int) (b : Nat) (hb : b < W.length) : Pure Try.prog 40 [meA w h W fr b] (.ints (farL w h W b)) := by
  have hn := hz.n2
  have hR : ∀ c s, c < W.length → s < 4 → rlC w h W c s < W.length := fun c s hc _ => rl_lt hz hc
  have hro := fun c s hc hs => rolls_pure hz fr b c s hc hs
  unfold farL
  have hwb : ∀ c, W.getD c false = wlB W c := fun _ => rfl
  generalize wlB W = wl at hwb
  generalize rlC w h W = R at hR hro
  have hll := fun f => lf_len W.length f
  (refine Spec.of_body Try.func40 rfl (by rw [Try.ntmps40]; simp) 0 (by simp) ?_; rw [Try.results40, Try.ntmps40]; simp only [entry, zipArgs, Nat.reduceAdd])
  repeat (first | apply Wp.seq | apply Wp.block | (apply Run.next; (simp only [push_cast, seval, List.length_map] <;> (try simp (disch := omega) only [wI, wU, wC]) <;> exact rfl); (focus ((try simp only [push_cast, seval, List.length_map]) <;> exact sT))) | ((first | apply Run.nil | apply Wp.skip); dsimp only [sQ, tQ, bQ]) | (apply Wp.run; (dsimp only [List.map] <;> exact rfl); exact rfl) | (apply Wp.exit; dsimp only [sQ, tQ, bQ]; simp only [reduceIte]) | (apply Run.gtrue; (simp only [push_cast, seval, List.length_map] <;> (try simp (disch := omega) only [wI, wU, wC]) <;> exact rfl); (simp only [push_cast, seval, List.length_map] <;> (try simp (disch := omega) only [wI, wU, wC]) <;> exact rfl)) | (apply Run.gfalse (.bool false); (simp only [push_cast, seval, List.length_map] <;> (try simp (disch := omega) only [wI, wU, wC]) <;> exact rfl); dsimp only [S.put, optG]) | (apply Wp.condT; (simp only [push_cast, seval, List.length_map] <;> (try simp (disch := omega) only [wI, wU, wC]) <;> exact rfl)) | (apply Wp.condF; (simp only [push_cast, seval, List.length_map] <;> (try simp (disch := omega) only [wI, wU, wC]) <;> exact rfl)))
  refine Wp.loop (fun k : Nat => { t := [(1, .optr 0 0 0 0), (3, .osl 1 0 0 W.length), (4, .int k)], m := [⟨0, .row 5 [meA w h W fr b]⟩, ⟨0, .row 1 ((lf W.length fun c => if c < k then -1 else 0).map AV.int)⟩], n := 71 }) (fun k => k ≤ W.length) (fun k => W.length - k) 0 ?_ ?_ ?_
  · have hz0 : (lf W.length fun c => if c < 0 then -1 else 0) = List.replicate W.length 0 := by
      apply List.ext_getElem?
      intro i
      by_cases hi : i < W.length
      · simp [lf, hi]
      · rw [List.getElem?_eq_none (by simp [lf]; omega), List.getElem?_eq_none (by simp; omega)]
    rw [hz0]
    (refine Le.of ?_ ?_ rfl rfl <;> (try simp only [push_cast, seval, List.length_map]) <;> (try (with_reducible rfl)))
    all_goals rfl
  · omega
  · intro k hk
    by_cases hkb : k < W.length
    · have e1 : decide ((k : Int) < (W.length : Int)) = true := decide_eq_true (by omega)
      have hset := lf_set W.length (fun c => if c < k then -1 else 0) k (-1)
      have hcg : (lf W.length fun c => if c = k then -1 else (if c < k then -1 else 0)) = lf W.length fun c => if c < k + 1 then -1 else 0 := lf_congr fun c _ => by
        split
        · rw [if_pos (by omega)]
        · split
          · rw [if_pos (by omega)]
          · rw [if_neg (by omega)]
      rw [hcg] at hset
      have hl1 := hll fun c => if c < k then -1 else 0
      generalize (lf W.length fun c => if c < k then -1 else 0) = L at hset hl1
      repeat (first | apply Wp.seq | apply Wp.block | (apply Run.next; (simp only [push_cast, seval, List.length_map, e1, hl1] <;> (try simp (disch := omega) only [wI, wU, wC]) <;> exact rfl); (focus ((try simp only [push_cast, seval, List.length_map, e1, hl1]) <;> exact sT))) | ((first | apply Run.nil | apply Wp.skip); dsimp only [sQ, tQ, bQ]) | (apply Wp.run; (dsimp only [List.map] <;> exact rfl); exact rfl) | (apply Wp.exit; dsimp only [sQ, tQ, bQ]; simp only [reduceIte]) | (apply Run.gtrue; (simp only [push_cast, seval, List.length_map, e1, hl1] <;> (try simp (disch := omega) only [wI, wU, wC]) <;> exact rfl); (simp only [push_cast, seval, List.length_map, e1, hl1] <;> (try simp (disch := omega) only [wI, wU, wC]) <;> exact rfl)) | (apply Run.gfalse (.bool false); (simp only [push_cast, seval, List.length_map, e1, hl1] <;> (try simp (disch := omega) only [wI, wU, wC]) <;> exact rfl); dsimp only [S.put, optG]) | (apply Wp.condT; (simp only [push_cast, seval, List.length_map, e1, hl1] <;> (try simp (disch := omega) only [wI, wU, wC]) <;> exact rfl)) | (apply Wp.condF; (simp only [push_cast, seval, List.length_map, e1, hl1] <;> (try simp (disch := omega) only [wI, wU, wC]) <;> exact rfl)))
      refine ⟨k + 1, ?_, by omega, by omega⟩
      rw [← hset]
      (refine Le.of ?_ ?_ rfl rfl <;> (try simp only [push_cast, seval, List.length_map, e1, hl1]) <;> (try (with_reducible rfl)))
    · obtain rfl : k = W.length := by omega
      have e1 : decide ((W.length : Int) < (W.length : Int)) = false := decide_eq_false (by omega)
      have hset := lf_set W.length (fun c => if c < W.length then -1 else 0) b 0
      have hcg : (lf W.length fun c => if c = b then 0 else (if c < W.length then -1 else 0)) = lf W.length (farF R wl b 0) := lf_congr fun c hc => by
        show _ = if c = b then 0 else -1
        split
        · rfl
        · first | rfl | rw [if_pos hc]
      rw [hcg] at hset
      have hl1 := hll fun c => if c < W.length then -1 else 0
      generalize (lf W.length fun c => if c < W.length then -1 else 0) = L at hset hl1
      repeat (first | apply Wp.seq | apply Wp.block | (apply Run.next; (simp only [push_cast, seval, List.length_map, e1, hl1] <;> (try simp (disch := omega) only [wI, wU, wC]) <;> exact rfl); (focus ((try simp only [push_cast, seval, List.length_map, e1, hl1]) <;> exact sT))) | ((first | apply Run.nil | apply Wp.skip); dsimp only [sQ, tQ, bQ]) | (apply Wp.run; (dsimp only [List.map] <;> exact rfl); exact rfl) | (apply Wp.exit; dsimp only [sQ, tQ, bQ]; simp only [reduceIte]) | (apply Run.gtrue; (simp only [push_cast, seval, List.length_map, e1, hl1] <;> (try simp (disch := omega) only [wI, wU, wC]) <;> exact rfl); (simp only [push_cast, seval, List.length_map, e1, hl1] <;> (try simp (disch := omega) only [wI, wU, wC]) <;> exact rfl)) | (apply Run.gfalse (.bool false); (simp only [push_cast, seval, List.length_map, e1, hl1] <;> (try simp (disch := omega) only [wI, wU, wC]) <;> exact rfl); dsimp only [S.put, optG]) | (apply Wp.condT; (simp only [push_cast, seval, List.length_map, e1, hl1] <;> (try simp (disch := omega) only [wI, wU, wC]) <;> exact rfl)) | (apply Wp.condF; (simp only [push_cast, seval, List.length_map, e1, hl1] <;> (try simp (disch := omega) only [wI, wU, wC]) <;> exact rfl)))
      refine Wp.loop (fun s : Nat => { t := [(1, .optr 0 0 0 0), (3, .osl 1 0 0 W.length), (5, .int s)], m := [⟨0, .row 5 [meA w h W fr b]⟩, ⟨0, .row 1 ((lf W.length (farF R wl b s)).map AV.int)⟩], n := 71 }) (fun s => s ≤ W.length) (fun s => W.length - s) 0 ?_ ?_ ?_
      · rw [← hset]
        (refine Le.of ?_ ?_ rfl rfl <;> (try simp only [push_cast, seval, List.length_map, e1, hl1]) <;> (try (with_reducible rfl)))
      · omega
      · intro s hs
        by_cases hsb : s < W.length
        · have e2 : decide ((s : Int) < (W.length : Int)) = true := decide_eq_true (by omega)
          repeat (first | apply Wp.seq | apply Wp.block | (apply Run.next; (simp only [push_cast, seval, List.length_map, e2] <;> (try simp (disch := omega) only [wI, wU, wC]) <;> exact rfl); (focus ((try simp only [push_cast, seval, List.length_map, e2]) <;> exact sT))) | ((first | apply Run.nil | apply Wp.skip); dsimp only [sQ, tQ, bQ]) | (apply Wp.run; (dsimp only [List.map] <;> exact rfl); exact rfl) | (apply Wp.exit; dsimp only [sQ, tQ, bQ]; simp only [reduceIte]) | (apply Run.gtrue; (simp only [push_cast, seval, List.length_map, e2] <;> (try simp (disch := omega) only [wI, wU, wC]) <;> exact rfl); (simp only [push_cast, seval, List.length_map, e2] <;> (try simp (disch := omega) only [wI, wU, wC]) <;> exact rfl)) | (apply Run.gfalse (.bool false); (simp only [push_cast, seval, List.length_map, e2] <;> (try simp (disch := omega) only [wI, wU, wC]) <;> exact rfl); dsimp only [S.put, optG]) | (apply Wp.condT; (simp only [push_cast, seval, List.length_map, e2] <;> (try simp (disch := omega) only [wI, wU, wC]) <;> exact rfl)) | (apply Wp.condF; (simp only [push_cast, seval, List.length_map, e2] <;> (try simp (disch := omega) only [wI, wU, wC]) <;> exact rfl)))
          refine Wp.loop (fun c : Nat => { t := [(1, .optr 0 0 0 0), (3, .osl 1 0 0 W.length), (5, .int s), (6, .int c)], m := [⟨0, .row 5 [meA w h W fr b]⟩, ⟨0, .row 1 ((lf W.length (mixF R wl b s c)).map AV.int)⟩], n := 71 }) (fun c => c ≤ W.length) (fun c => W.length - c) 0 ?_ ?_ ?_
          · have hz0 : lf W.length (mixF R wl b s 0) = lf W.length (farF R wl b s) := lf_congr fun c _ => by unfold mixF; rw [if_neg (by omega)]
            rw [hz0]
            (refine Le.of ?_ ?_ rfl rfl <;> (try simp only [push_cast, seval, List.length_map, e2]) <;> (try (with_reducible rfl)))
            all_goals rfl
          · omega
          · intro c hc
            by_cases hcb : c < W.length
            · have e3 : decide ((c : Int) < (W.length : Int)) = true := decide_eq_true (by omega)
              have hfr := far_range R wl b s c
              repeat (first | apply Wp.seq | apply Wp.block | (apply Run.next; (simp only [push_cast, seval, List.length_map, e3] <;> (try simp (disch := omega) only [wI, wU, wC]) <;> exact rfl); (focus ((try simp only [push_cast, seval, List.length_map, e3]) <;> exact sT))) | ((first | apply Run.nil | apply Wp.skip); dsimp only [sQ, tQ, bQ]) | (apply Wp.run; (dsimp only [List.map] <;> exact rfl); exact rfl) | (apply Wp.exit; dsimp only [sQ, tQ, bQ]; simp only [reduceIte]) | (apply Run.gtrue; (simp only [push_cast, seval, List.length_map, e3] <;> (try simp (disch := omega) only [wI, wU, wC]) <;> exact rfl); (simp only [push_cast, seval, List.length_map, e3] <;> (try simp (disch := omega) only [wI, wU, wC]) <;> exact rfl)) | (apply Run.gfalse (.bool false); (simp only [push_cast, seval, List.length_map, e3] <;> (try simp (disch := omega) only [wI, wU, wC]) <;> exact rfl); dsimp only [S.put, optG]) | (apply Wp.condT; (simp only [push_cast, seval, List.length_map, e3] <;> (try simp (disch := omega) only [wI, wU, wC]) <;> exact rfl)) | (apply Wp.condF; (simp only [push_cast, seval, List.length_map, e3] <;> (try simp (disch := omega) only [wI, wU, wC]) <;> exact rfl)))
              refine Wp.loop (fun (q : Nat × Int) => { t := [(1, .optr 0 0 0 0), (3, .osl 1 0 0 W.length), (5, .int s), (6, .int c), (7, .int q.1)], m := [⟨0, .row 5 [meA w h W fr b]⟩, ⟨0, .row 1 ((lf W.length fun x => if x = c then q.2 else mixF R wl b s c x).map AV.int)⟩], n := 71 })
                (fun q => q.1 ≤ 4 ∧ ((q.2 = farF R wl b s c ∧ (farF R wl b s c < 0 → wl c = false → ∀ u, u < q.1 → farF R wl b s (R c u) ≠ (s : Int))) ∨ (q.2 = (s : Int) + 1 ∧ farF R wl b (s + 1) c = (s : Int) + 1))) (fun q => 4 - q.1) (0, farF R wl b s c) ?_ ?_ ?_
              · have hz0 : (lf W.length fun x => if x = c then farF R wl b s c else mixF R wl b s c x) = lf W.length (mixF R wl b s c) := lf_congr fun x _ => by
                  split
                  · rename_i hx; subst hx; unfold mixF; rw [if_neg (by omega)]
                  · rfl
                rw [hz0]
                (refine Le.of ?_ ?_ rfl rfl <;> (try simp only [push_cast, seval, List.length_map, e3]) <;> (try (with_reducible rfl)))
                all_goals rfl
              · exact ⟨by omega, .inl ⟨rfl, fun _ _ u hu => absurd hu (Nat.not_lt_zero u)⟩⟩
              · rintro ⟨t, v⟩ ⟨ht, hv⟩
                simp only at ht hv
                have hgc := lf_getD W.length (fun x => if x = c then v else mixF R wl b s c x) hcb
                simp only [if_true] at hgc
                have hl3 := hll fun x => if x = c then v else mixF R wl b s c x
                -- the way out
                have hout : v = farF R wl b (s + 1) c → (lf W.length fun x => if x = c then v else mixF R wl b s c x) = lf W.length (mixF R wl b s (c + 1)) := fun e => lf_congr fun x _ => by
                  split
                  · rename_i hx; subst hx; rw [e]; unfold mixF; rw [if_pos (by omega)]
                  · unfold mixF
                    by_cases hx : x < c
                    · rw [if_pos hx, if_pos (by omega)]
                    · rw [if_neg hx, if_neg (by omega)]
                have hs1 : farF R wl b (s + 1) c = if (decide (farF R wl b s c < 0) && !wl c && (List.range 4).any fun t => farF R wl b s (R c t) == (s : Int)) = true then (s : Int) + 1 else farF R wl b s c := rfl
                have hwc := hwb c
                by_cases ht4 : t < 4
                · have e4 : decide ((t : Int) < 4) = true := decide_eq_true (by omega)
                  have hrt := hro c t hcb ht4
                  have hrl := hR c t hcb ht4
                  cases hng : decide (v < 0) with
                  | false =>
                    have hv0 := of_decide_eq_false hng
                    have he : v = farF R wl b (s + 1) c := by
                      rcases hv with ⟨h1, _⟩ | ⟨h1, h2⟩
                      · rw [h1, far_keep R wl b (by omega)]
                      · omega
                    have hnew := hout he
                    generalize (lf W.length fun x => if x = c then v else mixF R wl b s c x) = L3 at hgc hl3 hnew
                    repeat (first | apply Wp.seq | apply Wp.block | (apply Run.next; (simp only [push_cast, seval, List.length_map, e3, e4, hng, hgc, hl3] <;> (try simp (disch := omega) only [wI, wU, wC]) <;> exact rfl); (focus ((try simp only [push_cast, seval, List.length_map, e3, e4, hng, hgc, hl3]) <;> exact sT))) | ((first | apply Run.nil | apply Wp.skip); dsimp only [sQ, tQ, bQ]) | (apply Wp.run; (dsimp only [List.map] <;> exact rfl); exact rfl) | (apply Wp.exit; dsimp only [sQ, tQ, bQ]; simp only [reduceIte]) | (apply Run.gtrue; (simp only [push_cast, seval, List.length_map, e3, e4, hng, hgc, hl3] <;> (try simp (disch := omega) only [wI, wU, wC]) <;> exact rfl); (simp only [push_cast, seval, List.length_map, e3, e4, hng, hgc, hl3] <;> (try simp (disch := omega) only [wI, wU, wC]) <;> exact rfl)) | (apply Run.gfalse (.bool false); (simp only [push_cast, seval, List.length_map, e3, e4, hng, hgc, hl3] <;> (try simp (disch := omega) only [wI, wU, wC]) <;> exact rfl); dsimp only [S.put, optG]) | (apply Wp.condT; (simp only [push_cast, seval, List.length_map, e3, e4, hng, hgc, hl3] <;> (try simp (disch := omega) only [wI, wU, wC]) <;> exact rfl)) | (apply Wp.condF; (simp only [push_cast, seval, List.length_map, e3, e4, hng, hgc, hl3] <;> (try simp (disch := omega) only [wI, wU, wC]) <;> exact rfl)))
                    refine ⟨c + 1, ?_, by omega, by omega⟩
                    rw [← hnew]
                    (refine Le.of ?_ ?_ rfl rfl <;> (try simp only [push_cast, seval, List.length_map, e3, e4, hng, hgc, hl3]) <;> (try (with_reducible rfl)))
                  | true =>
                    have hv0 := of_decide_eq_true hng
                    obtain ⟨hve, hvu⟩ : v = farF R wl b s c ∧ (farF R wl b s c < 0 → wl c = false → ∀ u, u < t → farF R wl b s (R c u) ≠ (s : Int)) := by
                      rcases hv with h1 | ⟨h1, h2⟩
                      · exact h1
                      · omega
                    cases hwl : wl c with
                    | true =>
                      rw [hwl] at hwc
                      have he : v = farF R wl b (s + 1) c := by rw [hs1, hwl, if_neg (by simp)]; exact hve
                      have hnew := hout he
                      generalize (lf W.length fun x => if x = c then v else mixF R wl b s c x) = L3 at hgc hl3 hnew
                      repeat (first | apply Wp.seq | apply Wp.block | (apply Run.next; (simp only [push_cast, seval, List.length_map, e3, e4, hng, hgc, hl3, hwc] <;> (try simp (disch := omega) only [wI, wU, wC]) <;> exact rfl); (focus ((try simp only [push_cast, seval, List.length_map, e3, e4, hng, hgc, hl3, hwc]) <;> exact sT))) | ((first | apply Run.nil | apply Wp.skip); dsimp only [sQ, tQ, bQ]) | (apply Wp.run; (dsimp only [List.map] <;> exact rfl); exact rfl) | (apply Wp.exit; dsimp only [sQ, tQ, bQ]; simp only [reduceIte]) | (apply Run.gtrue; (simp only [push_cast, seval, List.length_map, e3, e4, hng, hgc, hl3, hwc] <;> (try simp (disch := omega) only [wI, wU, wC]) <;> exact rfl); (simp only [push_cast, seval, List.length_map, e3, e4, hng, hgc, hl3, hwc] <;> (try simp (disch := omega) only [wI, wU, wC]) <;> exact rfl)) | (apply Run.gfalse (.bool false); (simp only [push_cast, seval, List.length_map, e3, e4, hng, hgc, hl3, hwc] <;> (try simp (disch := omega) only [wI, wU, wC]) <;> exact rfl); dsimp only [S.put, optG]) | (apply Wp.condT; (simp only [push_cast, seval, List.length_map, e3, e4, hng, hgc, hl3, hwc] <;> (try simp (disch := omega) only [wI, wU, wC]) <;> exact rfl)) | (apply Wp.condF; (simp only [push_cast, seval, List.length_map, e3, e4, hng, hgc, hl3, hwc] <;> (try simp (disch := omega) only [wI, wU, wC]) <;> exact rfl)))
                      refine ⟨c + 1, ?_, by omega, by omega⟩
                      rw [← hnew]
                      (refine Le.of ?_ ?_ rfl rfl <;> (try simp only [push_cast, seval, List.length_map, e3, e4, hng, hgc, hl3, hwc]) <;> (try (with_reducible rfl)))
                    | false =>
                      rw [hwl] at hwc
                      have hgr : (lf W.length fun x => if x = c then v else mixF R wl b s c x).getD (R c t) 0 = if R c t = c then v else mixF R wl b s c (R c t) := lf_getD W.length (fun x => if x = c then v else mixF R wl b s c x) hrl
                      have hys : (if R c t = c then v else mixF R wl b s c (R c t)) = (s : Int) ↔ farF R wl b s (R c t) = (s : Int) := by
                        split
                        · rename_i hx; rw [hx, hve]
                        · exact mix_eq
                      generalize (if R c t = c then v else mixF R wl b s c (R c t)) = y at hgr hys
                      cases hy : decide (y = (s : Int)) with
                      | true =>
                        have hfs := hys.1 (of_decide_eq_true hy)
                        have he : farF R wl b (s + 1) c = (s : Int) + 1 := by
                          rw [hs1, if_pos]
                          simp only [Bool.and_eq_true, List.any_eq_true]
                          exact ⟨⟨decide_eq_true (by omega), by rw [hwl]; rfl⟩, t, List.mem_range.2 ht4, by simpa using hfs⟩
                        have hset := lf_set W.length (fun x => if x = c then v else mixF R wl b s c x) c ((s : Int) + 1)
                        have hcg : (lf W.length fun x => if x = c then (s : Int) + 1 else (if x = c then v else mixF R wl b s c x)) = lf W.length fun x => if x = c then (s : Int) + 1 else mixF R wl b s c x := lf_congr fun x _ => by
                          split
                          · rfl
                          · rename_i hx; first | rfl | rw [if_neg hx]
                        rw [hcg] at hset
                        generalize R c t = rt at hrt hrl hgr
                        generalize (lf W.length fun x => if x = c then v else mixF R wl b s c x) = L3 at hgc hl3 hset hgr
                        repeat (first | apply Wp.seq | apply Wp.block | (apply Run.next; (simp only [push_cast, seval, List.length_map, e3, e4, hng, hgc, hl3, hwc, hgr, hy] <;> (try simp (disch := omega) only [wI, wU, wC]) <;> exact rfl); (focus ((try simp only [push_cast, seval, List.length_map, e3, e4, hng, hgc, hl3, hwc, hgr, hy]) <;> exact sT))) | ((first | apply Run.nil | apply Wp.skip); dsimp only [sQ, tQ, bQ]) | (apply Wp.run; (dsimp only [List.map] <;> exact rfl); exact rfl) | (apply Wp.exit; dsimp only [sQ, tQ, bQ]; simp only [reduceIte]) | (apply Run.gtrue; (simp only [push_cast, seval, List.length_map, e3, e4, hng, hgc, hl3, hwc, hgr, hy] <;> (try simp (disch := omega) only [wI, wU, wC]) <;> exact rfl); (simp only [push_cast, seval, List.length_map, e3, e4, hng, hgc, hl3, hwc, hgr, hy] <;> (try simp (disch := omega) only [wI, wU, wC]) <;> exact rfl)) | (apply Run.gfalse (.bool false); (simp only [push_cast, seval, List.length_map, e3, e4, hng, hgc, hl3, hwc, hgr, hy] <;> (try simp (disch := omega) only [wI, wU, wC]) <;> exact rfl); dsimp only [S.put, optG]) | (apply Wp.condT; (simp only [push_cast, seval, List.length_map, e3, e4, hng, hgc, hl3, hwc, hgr, hy] <;> (try simp (disch := omega) only [wI, wU, wC]) <;> exact rfl)) | (apply Wp.condF; (simp only [push_cast, seval, List.length_map, e3, e4, hng, hgc, hl3, hwc, hgr, hy] <;> (try simp (disch := omega) only [wI, wU, wC]) <;> exact rfl)))
                        (apply Run.pureP; (simp only [push_cast, seval, List.length_map, e3, e4, hng, hgc, hl3, hwc, hgr, hy] <;> (try simp (disch := omega) only [wI, wU, wC]) <;> exact rfl); (exact (Enters.of Try.func38 rfl rfl)); (exact hrt); (focus (simp only [push_cast, seval, List.length_map, e3, e4, hng, hgc, hl3, hwc, hgr, hy] <;> first | trivial | assumption | (refine ⟨?_, ?_⟩ <;> assumption) | (simp; done))); (try dsimp only [putA, optG]))
                        repeat (first | apply Wp.seq | apply Wp.block | (apply Run.next; (simp only [push_cast, seval, List.length_map, e3, e4, hng, hgc, hl3, hwc, hgr, hy] <;> (try simp (disch := omega) only [wI, wU, wC]) <;> exact rfl); (focus ((try simp only [push_cast, seval, List.length_map, e3, e4, hng, hgc, hl3, hwc, hgr, hy]) <;> exact sT))) | ((first | apply Run.nil | apply Wp.skip); dsimp only [sQ, tQ, bQ]) | (apply Wp.run; (dsimp only [List.map] <;> exact rfl); exact rfl) | (apply Wp.exit; dsimp only [sQ, tQ, bQ]; simp only [reduceIte]) | (apply Run.gtrue; (simp only [push_cast, seval, List.length_map, e3, e4, hng, hgc, hl3, hwc, hgr, hy] <;> (try simp (disch := omega) only [wI, wU, wC]) <;> exact rfl); (simp only [push_cast, seval, List.length_map, e3, e4, hng, hgc, hl3, hwc, hgr, hy] <;> (try simp (disch := omega) only [wI, wU, wC]) <;> exact rfl)) | (apply Run.gfalse (.bool false); (simp only [push_cast, seval, List.length_map, e3, e4, hng, hgc, hl3, hwc, hgr, hy] <;> (try simp (disch := omega) only [wI, wU, wC]) <;> exact rfl); dsimp only [S.put, optG]) | (apply Wp.condT; (simp only [push_cast, seval, List.length_map, e3, e4, hng, hgc, hl3, hwc, hgr, hy] <;> (try simp (disch := omega) only [wI, wU, wC]) <;> exact rfl)) | (apply Wp.condF; (simp only [push_cast, seval, List.length_map, e3, e4, hng, hgc, hl3, hwc, hgr, hy] <;> (try simp (disch := omega) only [wI, wU, wC]) <;> exact rfl)))
                        refine ⟨(t + 1, (s : Int) + 1), ?_, ⟨by simp only; omega, .inr ⟨rfl, he⟩⟩, by simp only; omega⟩
                        simp only
                        rw [← hset]
                        (refine Le.of ?_ ?_ rfl rfl <;> (try simp only [push_cast, seval, List.length_map, e3, e4, hng, hgc, hl3, hwc, hgr, hy]) <;> (try (with_reducible rfl)))
                      | false =>
                        have hfs : ¬ farF R wl b s (R c t) = (s : Int) := fun h => of_decide_eq_false hy (hys.2 h)
                        have hvu2 : farF R wl b s c < 0 → wl c = false → ∀ u, u < t + 1 → farF R wl b s (R c u) ≠ (s : Int) := by
                          intro h1 h2 u hu
                          by_cases hut : u = t
                          · subst hut; exact hfs
                          · exact hvu h1 h2 u (by omega)
                        generalize R c t = rt at hrt hrl hgr
                        generalize hL3 : (lf W.length fun x => if x = c then v else mixF R wl b s c x) = L3 at hgc hl3 hgr
                        repeat (first | apply Wp.seq | apply Wp.block | (apply Run.next; (simp only [push_cast, seval, List.length_map, e3, e4, hng, hgc, hl3, hwc, hgr, hy] <;> (try simp (disch := omega) only [wI, wU, wC]) <;> exact rfl); (focus ((try simp only [push_cast, seval, List.length_map, e3, e4, hng, hgc, hl3, hwc, hgr, hy]) <;> exact sT))) | ((first | apply Run.nil | apply Wp.skip); dsimp only [sQ, tQ, bQ]) | (apply Wp.run; (dsimp only [List.map] <;> exact rfl); exact rfl) | (apply Wp.exit; dsimp only [sQ, tQ, bQ]; simp only [reduceIte]) | (apply Run.gtrue; (simp only [push_cast, seval, List.length_map, e3, e4, hng, hgc, hl3, hwc, hgr, hy] <;> (try simp (disch := omega) only [wI, wU, wC]) <;> exact rfl); (simp only [push_cast, seval, List.length_map, e3, e4, hng, hgc, hl3, hwc, hgr, hy] <;> (try simp (disch := omega) only [wI, wU, wC]) <;> exact rfl)) | (apply Run.gfalse (.bool false); (simp only [push_cast, seval, List.length_map, e3, e4, hng, hgc, hl3, hwc, hgr, hy] <;> (try simp (disch := omega) only [wI, wU, wC]) <;> exact rfl); dsimp only [S.put, optG]) | (apply Wp.condT; (simp only [push_cast, seval, List.length_map, e3, e4, hng, hgc, hl3, hwc, hgr, hy] <;> (try simp (disch := omega) only [wI, wU, wC]) <;> exact rfl)) | (apply Wp.condF; (simp only [push_cast, seval, List.length_map, e3, e4, hng, hgc, hl3, hwc, hgr, hy] <;> (try simp (disch := omega) only [wI, wU, wC]) <;> exact rfl)))
                        (apply Run.pureP; (simp only [push_cast, seval, List.length_map, e3, e4, hng, hgc, hl3, hwc, hgr, hy] <;> (try simp (disch := omega) only [wI, wU, wC]) <;> exact rfl); (exact (Enters.of Try.func38 rfl rfl)); (exact hrt); (focus (simp only [push_cast, seval, List.length_map, e3, e4, hng, hgc, hl3, hwc, hgr, hy] <;> first | trivial | assumption | (refine ⟨?_, ?_⟩ <;> assumption) | (simp; done))); (try dsimp only [putA, optG]))
                        repeat (first | apply Wp.seq | apply Wp.block | (apply Run.next; (simp only [push_cast, seval, List.length_map, e3, e4, hng, hgc, hl3, hwc, hgr, hy] <;> (try simp (disch := omega) only [wI, wU, wC]) <;> exact rfl); (focus ((try simp only [push_cast, seval, List.length_map, e3, e4, hng, hgc, hl3, hwc, hgr, hy]) <;> exact sT))) | ((first | apply Run.nil | apply Wp.skip); dsimp only [sQ, tQ, bQ]) | (apply Wp.run; (dsimp only [List.map] <;> exact rfl); exact rfl) | (apply Wp.exit; dsimp only [sQ, tQ, bQ]; simp only [reduceIte]) | (apply Run.gtrue; (simp only [push_cast, seval, List.length_map, e3, e4, hng, hgc, hl3, hwc, hgr, hy] <;> (try simp (disch := omega) only [wI, wU, wC]) <;> exact rfl); (simp only [push_cast, seval, List.length_map, e3, e4, hng, hgc, hl3, hwc, hgr, hy] <;> (try simp (disch := omega) only [wI, wU, wC]) <;> exact rfl)) | (apply Run.gfalse (.bool false); (simp only [push_cast, seval, List.length_map, e3, e4, hng, hgc, hl3, hwc, hgr, hy] <;> (try simp (disch := omega) only [wI, wU, wC]) <;> exact rfl); dsimp only [S.put, optG]) | (apply Wp.condT; (simp only [push_cast, seval, List.length_map, e3, e4, hng, hgc, hl3, hwc, hgr, hy] <;> (try simp (disch := omega) only [wI, wU, wC]) <;> exact rfl)) | (apply Wp.condF; (simp only [push_cast, seval, List.length_map, e3, e4, hng, hgc, hl3, hwc, hgr, hy] <;> (try simp (disch := omega) only [wI, wU, wC]) <;> exact rfl)))
                        refine ⟨(t + 1, v), ?_, ⟨by simp only; omega, .inl ⟨hve, fun q1 _ => hvu2 q1 hwl⟩⟩, by simp only; omega⟩
                        simp only
                        rw [hL3]
                        (refine Le.of ?_ ?_ rfl rfl <;> (try simp only [push_cast, seval, List.length_map, e3, e4, hng, hgc, hl3, hwc, hgr, hy]) <;> (try (with_reducible rfl)))
                · obtain rfl : t = 4 := by omega
                  have e4 : decide (((4 : Nat) : Int) < 4) = false := rfl
                  have he : v = farF R wl b (s + 1) c := by
                    rcases hv with ⟨h1, h2⟩ | ⟨h1, h2⟩
                    · rw [h1, hs1, if_neg]
                      intro hc2
                      simp only [Bool.and_eq_true, List.any_eq_true, decide_eq_true_eq, Bool.not_eq_true'] at hc2
                      obtain ⟨⟨q1, q2⟩, u, q3, q4⟩ := hc2
                      exact h2 q1 q2 u (List.mem_range.1 q3) (by simpa using q4)
                    · omega
                  have hnew := hout he
                  generalize (lf W.length fun x => if x = c then v else mixF R wl b s c x) = L3 at hgc hl3 hnew
                  repeat (first | apply Wp.seq | apply Wp.block | (apply Run.next; (simp only [push_cast, seval, List.length_map, e3, e4, hgc, hl3] <;> (try simp (disch := omega) only [wI, wU, wC]) <;> exact rfl); (focus ((try simp only [push_cast, seval, List.length_map, e3, e4, hgc, hl3]) <;> exact sT))) | ((first | apply Run.nil | apply Wp.skip); dsimp only [sQ, tQ, bQ]) | (apply Wp.run; (dsimp only [List.map] <;> exact rfl); exact rfl) | (apply Wp.exit; dsimp only [sQ, tQ, bQ]; simp only [reduceIte]) | (apply Run.gtrue; (simp only [push_cast, seval, List.length_map, e3, e4, hgc, hl3] <;> (try simp (disch := omega) only [wI, wU, wC]) <;> exact rfl); (simp only [push_cast, seval, List.length_map, e3, e4, hgc, hl3] <;> (try simp (disch := omega) only [wI, wU, wC]) <;> exact rfl)) | (apply Run.gfalse (.bool false); (simp only [push_cast, seval, List.length_map, e3, e4, hgc, hl3] <;> (try simp (disch := omega) only [wI, wU, wC]) <;> exact rfl); dsimp only [S.put, optG]) | (apply Wp.condT; (simp only [push_cast, seval, List.length_map, e3, e4, hgc, hl3] <;> (try simp (disch := omega) only [wI, wU, wC]) <;> exact rfl)) | (apply Wp.condF; (simp only [push_cast, seval, List.length_map, e3, e4, hgc, hl3] <;> (try simp (disch := omega) only [wI, wU, wC]) <;> exact rfl)))
                  refine ⟨c + 1, ?_, by omega, by omega⟩
                  rw [← hnew]
                  (refine Le.of ?_ ?_ rfl rfl <;> (try simp only [push_cast, seval, List.length_map, e3, e4, hgc, hl3]) <;> (try (with_reducible rfl)))
            · obtain rfl : c = W.length := by omega
              have e3 : decide ((W.length : Int) < (W.length : Int)) = false := decide_eq_false (by omega)
              have hz1 : lf W.length (mixF R wl b s W.length) = lf W.length (farF R wl b (s + 1)) := lf_congr fun c hc => by unfold mixF; rw [if_pos hc]
              rw [hz1]
              repeat (first | apply Wp.seq | apply Wp.block | (apply Run.next; (simp only [push_cast, seval, List.length_map, e3] <;> (try simp (disch := omega) only [wI, wU, wC]) <;> exact rfl); (focus ((try simp only [push_cast, seval, List.length_map, e3]) <;> exact sT))) | ((first | apply Run.nil | apply Wp.skip); dsimp only [sQ, tQ, bQ]) | (apply Wp.run; (dsimp only [List.map] <;> exact rfl); exact rfl) | (apply Wp.exit; dsimp only [sQ, tQ, bQ]; simp only [reduceIte]) | (apply Run.gtrue; (simp only [push_cast, seval, List.length_map, e3] <;> (try simp (disch := omega) only [wI, wU, wC]) <;> exact rfl); (simp only [push_cast, seval, List.length_map, e3] <;> (try simp (disch := omega) only [wI, wU, wC]) <;> exact rfl)) | (apply Run.gfalse (.bool false); (simp only [push_cast, seval, List.length_map, e3] <;> (try simp (disch := omega) only [wI, wU, wC]) <;> exact rfl); dsimp only [S.put, optG]) | (apply Wp.condT; (simp only [push_cast, seval, List.length_map, e3] <;> (try simp (disch := omega) only [wI, wU, wC]) <;> exact rfl)) | (apply Wp.condF; (simp only [push_cast, seval, List.length_map, e3] <;> (try simp (disch := omega) only [wI, wU, wC]) <;> exact rfl)))
              refine ⟨s + 1, ?_, by omega, by omega⟩
              (refine Le.of ?_ ?_ rfl rfl <;> (try simp only [push_cast, seval, List.length_map, e3]) <;> (try (with_reducible rfl)))
        · obtain rfl : s = W.length := by omega
          have e2 : decide ((W.length : Int) < (W.length : Int)) = false := decide_eq_false (by omega)
          have hl2 := hll (farF R wl b W.length)
          generalize lf W.length (farF R wl b W.length) = L2 at hl2
          repeat (first | apply Wp.seq | apply Wp.block | (apply Run.next; (simp only [push_cast, seval, List.length_map, e2, hl2] <;> (try simp (disch := omega) only [wI, wU, wC]) <;> exact rfl); (focus ((try simp only [push_cast, seval, List.length_map, e2, hl2]) <;> exact sT))) | ((first | apply Run.nil | apply Wp.skip); dsimp only [sQ, tQ, bQ]) | (apply Wp.run; (dsimp only [List.map] <;> exact rfl); exact rfl) | (apply Wp.exit; dsimp only [sQ, tQ, bQ]; simp only [reduceIte]) | (apply Run.gtrue; (simp only [push_cast, seval, List.length_map, e2, hl2] <;> (try simp (disch := omega) only [wI, wU, wC]) <;> exact rfl); (simp only [push_cast, seval, List.length_map, e2, hl2] <;> (try simp (disch := omega) only [wI, wU, wC]) <;> exact rfl)) | (apply Run.gfalse (.bool false); (simp only [push_cast, seval, List.length_map, e2, hl2] <;> (try simp (disch := omega) only [wI, wU, wC]) <;> exact rfl); dsimp only [S.put, optG]) | (apply Wp.condT; (simp only [push_cast, seval, List.length_map, e2, hl2] <;> (try simp (disch := omega) only [wI, wU, wC]) <;> exact rfl)) | (apply Wp.condF; (simp only [push_cast, seval, List.length_map, e2, hl2] <;> (try simp (disch := omega) only [wI, wU, wC]) <;> exact rfl)))
          (apply Wp.freeze 2; (simp only [push_cast, seval, List.length_map, e2, hl2] <;> (try simp (disch := omega) only [wI, wU, wC]) <;> exact rfl); (simp only [push_cast, seval, List.length_map, e2, hl2] <;> (try simp (disch := omega) only [wI, wU, wC]) <;> exact rfl); (focus (try simp only [push_cast, seval, List.length_map, e2, hl2]); (try (exact sT))); (focus (exact sT)))
          (apply Wp.ret; (try dsimp only [sQ, tQ, bQ]); apply leave0; exact rfl; (simp only [push_cast, seval, List.length_map, e2, hl2] <;> (try simp (disch := omega) only [wI, wU, wC]) <;> exact rfl); all_goals (try simp only [push_cast, seval, List.length_map, e2, hl2]); (try rfl))
          rw [List.take_of_length_le (by omega)]
end Go.Proofs.Try
set_option maxHeartbeats 8000000
set_option maxRecDepth 20000
namespace Go.Proofs.Try
open Go.Vg

/-! the document's Escape -/
section
variable {w h : Int} {W : List Bool} {b : Nat}
theorem rlF_free (hz : MZ w h W) {s : Nat} : ∀ (f c : Nat), W.getD c false = false → W.getD (rlF w h W f c s) false = false
  | 0, c, h2 => h2
  | f + 1, c, h2 => by
    cases hn : nxC w h W c s with
    | none => simp only [rlF, hn]; exact h2
    | some k =>
      obtain ⟨_, _, h3, h4⟩ := nxC_some hz hn
      have := rlF_free hz (s := s) f k h4
      simp only [rlF, hn]; exact this
def GC (W : List Bool) (c : Nat) : Prop := c < W.length ∧ W.getD c false = false
def dF (w h : Int) (W : List Bool) (b : Nat) : Nat → Int := farF (rlC w h W) (wlB W) b W.length
theorem gc_step (hz : MZ w h W) : ∀ c t, GC W c → t < 4 → GC W (rlC w h W c t) := fun c t hc ht => ⟨rl_lt hz hc.1, rl_free hz hc.1 hc.2⟩
theorem dF_word : ∀ c, GC W c → 0 ≤ dF w h W b c → ∃ v, okS v ∧ endW (rlC w h W) c v = b ∧ (v.length : Int) = dF w h W b c := fun c _ h0 => far_word _ _ _ _ _ h0
theorem dF_least (hz : MZ w h W) : ∀ c v, GC W c → okS v → endW (rlC w h W) c v = b → 0 ≤ dF w h W b c ∧ dF w h W b c ≤ v.length := by
  intro c v hc hv he
  have hw : ∀ c s, wlB W c = false → s < 4 → wlB W (rlC w h W c s) = false := fun c s h1 _ => rlF_free hz 70 c h1
  obtain ⟨u, u1, u2, u3⟩ := bfs_short (rlC w h W) (n := W.length) (fun c s hc _ => rl_lt hz hc) hc.1 ⟨v, hv, he⟩
  have h1 := far_least (rlC w h W) (wlB W) b hw W.length c u hc.2 u1 u2 (by omega)
  refine ⟨h1.1, ?_⟩
  by_cases hl : v.length ≤ W.length
  · exact (far_least (rlC w h W) (wlB W) b hw W.length c v hc.2 hv he hl).2
  · have := (far_range (rlC w h W) (wlB W) b W.length c).2
    unfold dF; omega
/-- no way out, exactly if the search has none -/
theorem esc_none (hz : MZ w h W) {a : Nat} (ha : GC W a) : wayQ (bfs (rlC w h W) W.length a) b = none ↔ dF w h W b a < 0 := by
  have hR : ∀ c s, c < W.length → s < 4 → rlC w h W c s < W.length := fun c s hc _ => rl_lt hz hc
  rw [wayQ_none, ← Bool.not_eq_true, bfs_iff (rlC w h W) hR ha.1]
  constructor
  · intro h1
    by_cases h2 : dF w h W b a < 0
    · exact h2
    · obtain ⟨v, v1, v2, _⟩ := dF_word (w := w) (h := h) (b := b) a ha (by omega)
      exact absurd ⟨v, v1, v2⟩ h1
  · rintro h1 ⟨v, v1, v2⟩
    have := (dF_least hz a v ha v1 v2).1
    omega
theorem esc_some (hz : MZ w h W) {a : Nat} (ha : GC W a) {wd : List Nat} (hw : wayQ (bfs (rlC w h W) W.length a) b = some wd) : dF w h W b a = (wd.length : Int) ∧ grS (rlC w h W) (dF w h W b) wd.length a = wd := by
  have hR : ∀ c s, c < W.length → s < 4 → rlC w h W c s < W.length := fun c s hc _ => rl_lt hz hc
  have hL := wayQ_some (rlC w h W) (bfs_is (rlC w h W) hR ha.1).1 hw
  exact gr_least (rlC w h W) b (G := GC W) (gc_step hz) dF_word (dF_least hz) ha hL
/-- the next step -/
theorem ft_next (hz : MZ w h W) {c k : Nat} (hc : GC W c) (hk : dF w h W b c = ((k + 1 : Nat) : Int)) : ftS (rlC w h W) (dF w h W b) k c < 4 ∧ dF w h W b (rlC w h W c (ftS (rlC w h W) (dF w h W b) k c)) = (k : Int) ∧ ∀ t, t < ftS (rlC w h W) (dF w h W b) k c → dF w h W b (rlC w h W c t) ≠ (k : Int) := by
  obtain ⟨v, v1, v2, v3⟩ := dF_word (w := w) (h := h) (b := b) c hc (by omega)
  cases v with
  | nil =>
    have v3 : ((0 : Nat) : Int) = dF w h W b c := v3
    omega
  | cons t v =>
    have ht : t < 4 := v1 t (by simp)
    have hv : okS v := fun x hx => v1 x (by simp [hx])
    obtain ⟨q1, q2⟩ := dF_least hz (rlC w h W c t) v (gc_step hz c t hc ht) hv v2
    obtain ⟨u, u1, u2, u3⟩ := dF_word (rlC w h W c t) (gc_step hz c t hc ht) q1
    have h4 := (dF_least (b := b) hz c (t :: u) hc (by
      intro x hx
      rcases List.mem_cons.1 hx with rfl | hx
      · exact ht
      · exact u1 x hx) u2).2
    simp only [List.length_cons] at v3 h4
    have hD : dF w h W b (rlC w h W c t) = (k : Int) := by omega
    obtain ⟨f1, f2, f3⟩ := ft_is (rlC w h W) ht hD
    refine ⟨f1, f2, fun t' ht' h' => ?_⟩
    have := (ft_is (rlC w h W) (by omega : t' < 4) h').2.2
    omega
end
theorem rEscape_pure (w h fr to : Int) (W : List Bool) : Pure Try.prog 20 [meA w h W fr to] (.tup [escA w h W fr to, .int (escE w h W fr to)]) := by
  have hck := CheckMaze_pure w h fr to W
  cases hm : mazeB w h W fr to with
  | false =>
    rw [ckM_no hm] at hck
    rw [show escA w h W fr to = .emp from by unfold escA; rw [hm]; rfl, show escE w h W fr to = 30 from by unfold escE; rw [hm]; rfl]
    (refine Spec.of_body Try.func20 rfl (by rw [Try.ntmps20]; simp) 0 (by simp) ?_; rw [Try.results20, Try.ntmps20]; simp only [entry, zipArgs, Nat.reduceAdd])
    repeat (first | apply Wp.seq | apply Wp.block | (apply Run.next; (simp only [push_cast, seval] <;> (try simp (disch := omega) only [wI, wU, wC]) <;> exact rfl); (focus ((try simp only [push_cast, seval]) <;> exact sT))) | ((first | apply Run.nil | apply Wp.skip); dsimp only [sQ, tQ, bQ]) | (apply Wp.run; (dsimp only [List.map] <;> exact rfl); exact rfl) | (apply Wp.exit; dsimp only [sQ, tQ, bQ]; simp only [reduceIte]) | (apply Run.gtrue; (simp only [push_cast, seval] <;> (try simp (disch := omega) only [wI, wU, wC]) <;> exact rfl); (simp only [push_cast, seval] <;> (try simp (disch := omega) only [wI, wU, wC]) <;> exact rfl)) | (apply Run.gfalse (.bool false); (simp only [push_cast, seval] <;> (try simp (disch := omega) only [wI, wU, wC]) <;> exact rfl); dsimp only [S.put, optG]) | (apply Wp.condT; (simp only [push_cast, seval] <;> (try simp (disch := omega) only [wI, wU, wC]) <;> exact rfl)) | (apply Wp.condF; (simp only [push_cast, seval] <;> (try simp (disch := omega) only [wI, wU, wC]) <;> exact rfl)))
    (apply Run.pureP; (simp only [push_cast, seval] <;> (try simp (disch := omega) only [wI, wU, wC]) <;> exact rfl); (exact (Enters.of Try.func37 rfl rfl)); (exact hck); (focus (simp only [push_cast, seval] <;> first | trivial | assumption | (refine ⟨?_, ?_⟩ <;> assumption) | (simp; done))); (try dsimp only [putA, optG]))
    repeat (first | apply Wp.seq | apply Wp.block | (apply Run.next; (simp only [push_cast, seval] <;> (try simp (disch := omega) only [wI, wU, wC]) <;> exact rfl); (focus ((try simp only [push_cast, seval]) <;> exact sT))) | ((first | apply Run.nil | apply Wp.skip); dsimp only [sQ, tQ, bQ]) | (apply Wp.run; (dsimp only [List.map] <;> exact rfl); exact rfl) | (apply Wp.exit; dsimp only [sQ, tQ, bQ]; simp only [reduceIte]) | (apply Run.gtrue; (simp only [push_cast, seval] <;> (try simp (disch := omega) only [wI, wU, wC]) <;> exact rfl); (simp only [push_cast, seval] <;> (try simp (disch := omega) only [wI, wU, wC]) <;> exact rfl)) | (apply Run.gfalse (.bool false); (simp only [push_cast, seval] <;> (try simp (disch := omega) only [wI, wU, wC]) <;> exact rfl); dsimp only [S.put, optG]) | (apply Wp.condT; (simp only [push_cast, seval] <;> (try simp (disch := omega) only [wI, wU, wC]) <;> exact rfl)) | (apply Wp.condF; (simp only [push_cast, seval] <;> (try simp (disch := omega) only [wI, wU, wC]) <;> exact rfl)))
    (apply Wp.ret; (try dsimp only [sQ, tQ, bQ]); apply leave0; exact rfl; (simp only [push_cast, seval] <;> (try simp (disch := omega) only [wI, wU, wC]) <;> exact rfl); all_goals (try simp only [push_cast, seval]); (try rfl))
  | true =>
    rw [ckM_yes hm] at hck
    obtain ⟨hz, a, b, rfl, rfl, hal, hbl, haw, hbw⟩ := maze_is hm
    have hn := hz.n2
    have ha : GC W a := ⟨hal, haw⟩
    have hfp := far_pure hz a b hbl
    have hfL : farL w h W b = lf W.length (dF w h W b) := rfl
    rw [hfL] at hfp
    have hwE : escW w h W a b = wayQ (bfs (rlC w h W) W.length a) b := by unfold escW; rw [Int.toNat_natCast, Int.toNat_natCast]
    have hA : escA w h W a b = (match wayQ (bfs (rlC w h W) W.length a) b with
      | some wd => .ints (natI wd)
      | none => .emp) := by unfold escA; rw [if_pos hm, hwE]; cases wayQ (bfs (rlC w h W) W.length a) b <;> rfl
    have hE : escE w h W a b = (match wayQ (bfs (rlC w h W) W.length a) b with
      | some _ => 0
      | none => 3) := by unfold escE; rw [if_pos hm, hwE]; cases wayQ (bfs (rlC w h W) W.length a) b <;> rfl
    rw [hA, hE]
    have hll := lf_len W.length (dF w h W b)
    have hga := lf_getD W.length (dF w h W b) hal
    cases hq : wayQ (bfs (rlC w h W) W.length a) b with
    | none =>
      have hd := (esc_none hz ha).1 hq
      have e1 : decide (dF w h W b a < 0) = true := decide_eq_true hd
      generalize lf W.length (dF w h W b) = Ld at hfp hll hga
      (refine Spec.of_body Try.func20 rfl (by rw [Try.ntmps20]; simp) 0 (by simp) ?_; rw [Try.results20, Try.ntmps20]; simp only [entry, zipArgs, Nat.reduceAdd])
      repeat (first | apply Wp.seq | apply Wp.block | (apply Run.next; (simp only [push_cast, seval, List.length_map, hll, hga, e1] <;> (try simp (disch := omega) only [wI, wU, wC]) <;> exact rfl); (focus ((try simp only [push_cast, seval, List.length_map, hll, hga, e1]) <;> exact sT))) | ((first | apply Run.nil | apply Wp.skip); dsimp only [sQ, tQ, bQ]) | (apply Wp.run; (dsimp only [List.map] <;> exact rfl); exact rfl) | (apply Wp.exit; dsimp only [sQ, tQ, bQ]; simp only [reduceIte]) | (apply Run.gtrue; (simp only [push_cast, seval, List.length_map, hll, hga, e1] <;> (try simp (disch := omega) only [wI, wU, wC]) <;> exact rfl); (simp only [push_cast, seval, List.length_map, hll, hga, e1] <;> (try simp (disch := omega) only [wI, wU, wC]) <;> exact rfl)) | (apply Run.gfalse (.bool false); (simp only [push_cast, seval, List.length_map, hll, hga, e1] <;> (try simp (disch := omega) only [wI, wU, wC]) <;> exact rfl); dsimp only [S.put, optG]) | (apply Wp.condT; (simp only [push_cast, seval, List.length_map, hll, hga, e1] <;> (try simp (disch := omega) only [wI, wU, wC]) <;> exact rfl)) | (apply Wp.condF; (simp only [push_cast, seval, List.length_map, hll, hga, e1] <;> (try simp (disch := omega) only [wI, wU, wC]) <;> exact rfl)))
      (apply Run.pureP; (simp only [push_cast, seval, List.length_map, hll, hga, e1] <;> (try simp (disch := omega) only [wI, wU, wC]) <;> exact rfl); (exact (Enters.of Try.func37 rfl rfl)); (exact hck); (focus (simp only [push_cast, seval, List.length_map, hll, hga, e1] <;> first | trivial | assumption | (refine ⟨?_, ?_⟩ <;> assumption) | (simp; done))); (try dsimp only [putA, optG]))
      repeat (first | apply Wp.seq | apply Wp.block | (apply Run.next; (simp only [push_cast, seval, List.length_map, hll, hga, e1] <;> (try simp (disch := omega) only [wI, wU, wC]) <;> exact rfl); (focus ((try simp only [push_cast, seval, List.length_map, hll, hga, e1]) <;> exact sT))) | ((first | apply Run.nil | apply Wp.skip); dsimp only [sQ, tQ, bQ]) | (apply Wp.run; (dsimp only [List.map] <;> exact rfl); exact rfl) | (apply Wp.exit; dsimp only [sQ, tQ, bQ]; simp only [reduceIte]) | (apply Run.gtrue; (simp only [push_cast, seval, List.length_map, hll, hga, e1] <;> (try simp (disch := omega) only [wI, wU, wC]) <;> exact rfl); (simp only [push_cast, seval, List.length_map, hll, hga, e1] <;> (try simp (disch := omega) only [wI, wU, wC]) <;> exact rfl)) | (apply Run.gfalse (.bool false); (simp only [push_cast, seval, List.length_map, hll, hga, e1] <;> (try simp (disch := omega) only [wI, wU, wC]) <;> exact rfl); dsimp only [S.put, optG]) | (apply Wp.condT; (simp only [push_cast, seval, List.length_map, hll, hga, e1] <;> (try simp (disch := omega) only [wI, wU, wC]) <;> exact rfl)) | (apply Wp.condF; (simp only [push_cast, seval, List.length_map, hll, hga, e1] <;> (try simp (disch := omega) only [wI, wU, wC]) <;> exact rfl)))
      (apply Run.pureFP; (simp only [push_cast, seval, List.length_map, hll, hga, e1] <;> (try simp (disch := omega) only [wI, wU, wC]) <;> exact rfl); (exact (Enters.of Try.func40 rfl rfl)); (exact hfp); (focus (simp only [push_cast, seval, List.length_map, hll, hga, e1] <;> first | trivial | assumption | (refine ⟨?_, ?_⟩ <;> assumption) | (simp; done))); (try dsimp only [putA, optG]))
      repeat (first | apply Wp.seq | apply Wp.block | (apply Run.next; (simp only [push_cast, seval, List.length_map, hll, hga, e1] <;> (try simp (disch := omega) only [wI, wU, wC]) <;> exact rfl); (focus ((try simp only [push_cast, seval, List.length_map, hll, hga, e1]) <;> exact sT))) | ((first | apply Run.nil | apply Wp.skip); dsimp only [sQ, tQ, bQ]) | (apply Wp.run; (dsimp only [List.map] <;> exact rfl); exact rfl) | (apply Wp.exit; dsimp only [sQ, tQ, bQ]; simp only [reduceIte]) | (apply Run.gtrue; (simp only [push_cast, seval, List.length_map, hll, hga, e1] <;> (try simp (disch := omega) only [wI, wU, wC]) <;> exact rfl); (simp only [push_cast, seval, List.length_map, hll, hga, e1] <;> (try simp (disch := omega) only [wI, wU, wC]) <;> exact rfl)) | (apply Run.gfalse (.bool false); (simp only [push_cast, seval, List.length_map, hll, hga, e1] <;> (try simp (disch := omega) only [wI, wU, wC]) <;> exact rfl); dsimp only [S.put, optG]) | (apply Wp.condT; (simp only [push_cast, seval, List.length_map, hll, hga, e1] <;> (try simp (disch := omega) only [wI, wU, wC]) <;> exact rfl)) | (apply Wp.condF; (simp only [push_cast, seval, List.length_map, hll, hga, e1] <;> (try simp (disch := omega) only [wI, wU, wC]) <;> exact rfl)))
      (apply Wp.ret; (try dsimp only [sQ, tQ, bQ]); apply leave0; exact rfl; (simp only [push_cast, seval, List.length_map, hll, hga, e1] <;> (try simp (disch := omega) only [wI, wU, wC]) <;> exact rfl); all_goals (try simp only [push_cast, seval, List.length_map, hll, hga, e1]); (try rfl))
    | some wd =>
      obtain ⟨hd, hgr⟩ := esc_some hz ha hq
      have hwl : wd.length ≤ 64 := by
        have := (far_range (rlC w h W) (wlB W) b W.length a).2
        unfold dF at hd; omega
      have e1 : decide ((wd.length : Int) < 0) = false := decide_eq_false (by omega)
      have hgd := fun c (hc : c < W.length) => lf_getD W.length (dF w h W b) hc
      have hro := fun c s hc hs => rolls_pure hz a b c s hc hs
      have hft := fun c k => ft_next (b := b) hz (c := c) (k := k)
      have hgs := gc_step hz
      rw [hd] at hga
      simp only
      generalize dF w h W b = D at hd hgr hgd hft hfp hll hga
      generalize rlC w h W = R at hgr hro hft hgs
      generalize lf W.length D = Ld at hfp hll hga hgd
      (refine Spec.of_body Try.func20 rfl (by rw [Try.ntmps20]; simp) 0 (by simp) ?_; rw [Try.results20, Try.ntmps20]; simp only [entry, zipArgs, Nat.reduceAdd])
      repeat (first | apply Wp.seq | apply Wp.block | (apply Run.next; (simp only [push_cast, seval, List.length_map, hll, hga, e1] <;> (try simp (disch := omega) only [wI, wU, wC]) <;> exact rfl); (focus ((try simp only [push_cast, seval, List.length_map, hll, hga, e1]) <;> exact sT))) | ((first | apply Run.nil | apply Wp.skip); dsimp only [sQ, tQ, bQ]) | (apply Wp.run; (dsimp only [List.map] <;> exact rfl); exact rfl) | (apply Wp.exit; dsimp only [sQ, tQ, bQ]; simp only [reduceIte]) | (apply Run.gtrue; (simp only [push_cast, seval, List.length_map, hll, hga, e1] <;> (try simp (disch := omega) only [wI, wU, wC]) <;> exact rfl); (simp only [push_cast, seval, List.length_map, hll, hga, e1] <;> (try simp (disch := omega) only [wI, wU, wC]) <;> exact rfl)) | (apply Run.gfalse (.bool false); (simp only [push_cast, seval, List.length_map, hll, hga, e1] <;> (try simp (disch := omega) only [wI, wU, wC]) <;> exact rfl); dsimp only [S.put, optG]) | (apply Wp.condT; (simp only [push_cast, seval, List.length_map, hll, hga, e1] <;> (try simp (disch := omega) only [wI, wU, wC]) <;> exact rfl)) | (apply Wp.condF; (simp only [push_cast, seval, List.length_map, hll, hga, e1] <;> (try simp (disch := omega) only [wI, wU, wC]) <;> exact rfl)))
      (apply Run.pureP; (simp only [push_cast, seval, List.length_map, hll, hga, e1] <;> (try simp (disch := omega) only [wI, wU, wC]) <;> exact rfl); (exact (Enters.of Try.func37 rfl rfl)); (exact hck); (focus (simp only [push_cast, seval, List.length_map, hll, hga, e1] <;> first | trivial | assumption | (refine ⟨?_, ?_⟩ <;> assumption) | (simp; done))); (try dsimp only [putA, optG]))
      repeat (first | apply Wp.seq | apply Wp.block | (apply Run.next; (simp only [push_cast, seval, List.length_map, hll, hga, e1] <;> (try simp (disch := omega) only [wI, wU, wC]) <;> exact rfl); (focus ((try simp only [push_cast, seval, List.length_map, hll, hga, e1]) <;> exact sT))) | ((first | apply Run.nil | apply Wp.skip); dsimp only [sQ, tQ, bQ]) | (apply Wp.run; (dsimp only [List.map] <;> exact rfl); exact rfl) | (apply Wp.exit; dsimp only [sQ, tQ, bQ]; simp only [reduceIte]) | (apply Run.gtrue; (simp only [push_cast, seval, List.length_map, hll, hga, e1] <;> (try simp (disch := omega) only [wI, wU, wC]) <;> exact rfl); (simp only [push_cast, seval, List.length_map, hll, hga, e1] <;> (try simp (disch := omega) only [wI, wU, wC]) <;> exact rfl)) | (apply Run.gfalse (.bool false); (simp only [push_cast, seval, List.length_map, hll, hga, e1] <;> (try simp (disch := omega) only [wI, wU, wC]) <;> exact rfl); dsimp only [S.put, optG]) | (apply Wp.condT; (simp only [push_cast, seval, List.length_map, hll, hga, e1] <;> (try simp (disch := omega) only [wI, wU, wC]) <;> exact rfl)) | (apply Wp.condF; (simp only [push_cast, seval, List.length_map, hll, hga, e1] <;> (try simp (disch := omega) only [wI, wU, wC]) <;> exact rfl)))
      (apply Run.pureFP; (simp only [push_cast, seval, List.length_map, hll, hga, e1] <;> (try simp (disch := omega) only [wI, wU, wC]) <;> exact rfl); (exact (Enters.of Try.func40 rfl rfl)); (exact hfp); (focus (simp only [push_cast, seval, List.length_map, hll, hga, e1] <;> first | trivial | assumption | (refine ⟨?_, ?_⟩ <;> assumption) | (simp; done))); (try dsimp only [putA, optG]))
      repeat (first | apply Wp.seq | apply Wp.block | (apply Run.next; (simp only [push_cast, seval, List.length_map, hll, hga, e1] <;> (try simp (disch := omega) only [wI, wU, wC]) <;> exact rfl); (focus ((try simp only [push_cast, seval, List.length_map, hll, hga, e1]) <;> exact sT))) | ((first | apply Run.nil | apply Wp.skip); dsimp only [sQ, tQ, bQ]) | (apply Wp.run; (dsimp only [List.map] <;> exact rfl); exact rfl) | (apply Wp.exit; dsimp only [sQ, tQ, bQ]; simp only [reduceIte]) | (apply Run.gtrue; (simp only [push_cast, seval, List.length_map, hll, hga, e1] <;> (try simp (disch := omega) only [wI, wU, wC]) <;> exact rfl); (simp only [push_cast, seval, List.length_map, hll, hga, e1] <;> (try simp (disch := omega) only [wI, wU, wC]) <;> exact rfl)) | (apply Run.gfalse (.bool false); (simp only [push_cast, seval, List.length_map, hll, hga, e1] <;> (try simp (disch := omega) only [wI, wU, wC]) <;> exact rfl); dsimp only [S.put, optG]) | (apply Wp.condT; (simp only [push_cast, seval, List.length_map, hll, hga, e1] <;> (try simp (disch := omega) only [wI, wU, wC]) <;> exact rfl)) | (apply Wp.condF; (simp only [push_cast, seval, List.length_map, hll, hga, e1] <;> (try simp (disch := omega) only [wI, wU, wC]) <;> exact rfl)))
      apply Wp.adopt 6 1; (simp only [push_cast, seval, List.length_map, hll, hga, e1] <;> (try simp (disch := omega) only [wI, wU, wC]) <;> exact rfl)
      refine Wp.loop (fun (q : Nat × Nat × List Int) => { t := [(1, .optr 0 0 0 0), (5, .ints Ld), (6, .osl 1 q.2.2.length 0 q.2.2.length), (7, .int q.1)], m := [⟨0, .row 5 [meA w h W a b]⟩, ⟨q.2.2.length, .row 1 (q.2.2.map AV.int)⟩], n := 53 }) (fun q => GC W q.1 ∧ D q.1 = (q.2.1 : Int) ∧ q.2.2 ++ natI (grS R D q.2.1 q.1) = natI wd) (fun q => q.2.1) (a, wd.length, []) ?_ ?_ ?_
      · (refine Le.of ?_ ?_ rfl rfl <;> (try simp only [push_cast, seval, List.length_map, hll, hga, e1]) <;> (try (with_reducible rfl)))
        all_goals rfl
      · exact ⟨ha, hd, by simp [hgr]⟩
      · rintro ⟨c, k, o⟩ ⟨hc, hk, ho⟩
        simp only at hc hk ho
        have hgc := hgd c hc.1
        have hcl := hc.1
        have hol : o.length ≤ 64 := by
          have := congrArg List.length ho
          rw [List.length_append, natI_len] at this
          rw [natI_len] at this; omega
        rw [hk] at hgc
        cases k with
        | zero =>
          have e2 : decide (0 < ((0 : Nat) : Int)) = false := rfl
          have ho : o = natI wd := by rw [← ho]; simp [grS, natI]
          rw [← ho]
          repeat (first | apply Wp.seq | apply Wp.block | (apply Run.next; (simp only [push_cast, seval, List.length_map, hll, hgc, e2] <;> (try simp (disch := omega) only [wI, wU, wC]) <;> exact rfl); (focus ((try simp only [push_cast, seval, List.length_map, hll, hgc, e2]) <;> exact sT))) | ((first | apply Run.nil | apply Wp.skip); dsimp only [sQ, tQ, bQ]) | (apply Wp.run; (dsimp only [List.map] <;> exact rfl); exact rfl) | (apply Wp.exit; dsimp only [sQ, tQ, bQ]; simp only [reduceIte]) | (apply Run.gtrue; (simp only [push_cast, seval, List.length_map, hll, hgc, e2] <;> (try simp (disch := omega) only [wI, wU, wC]) <;> exact rfl); (simp only [push_cast, seval, List.length_map, hll, hgc, e2] <;> (try simp (disch := omega) only [wI, wU, wC]) <;> exact rfl)) | (apply Run.gfalse (.bool false); (simp only [push_cast, seval, List.length_map, hll, hgc, e2] <;> (try simp (disch := omega) only [wI, wU, wC]) <;> exact rfl); dsimp only [S.put, optG]) | (apply Wp.condT; (simp only [push_cast, seval, List.length_map, hll, hgc, e2] <;> (try simp (disch := omega) only [wI, wU, wC]) <;> exact rfl)) | (apply Wp.condF; (simp only [push_cast, seval, List.length_map, hll, hgc, e2] <;> (try simp (disch := omega) only [wI, wU, wC]) <;> exact rfl)))
          (apply Wp.freeze 2; (simp only [push_cast, seval, List.length_map, hll, hgc, e2] <;> (try simp (disch := omega) only [wI, wU, wC]) <;> exact rfl); (simp only [push_cast, seval, List.length_map, hll, hgc, e2] <;> (try simp (disch := omega) only [wI, wU, wC]) <;> exact rfl); (focus (try simp only [push_cast, seval, List.length_map, hll, hgc, e2]); (try (exact sT))); (focus (exact sT)))
          (apply Wp.ret; (try dsimp only [sQ, tQ, bQ]); apply leave0; exact rfl; (simp only [push_cast, seval, List.length_map, hll, hgc, e2] <;> (try simp (disch := omega) only [wI, wU, wC]) <;> exact rfl); all_goals (try simp only [push_cast, seval, List.length_map, hll, hgc, e2]); (try rfl))
          all_goals trace_state
        | succ k =>
          obtain ⟨K, hK⟩ : ∃ K : Nat, K = k + 1 := ⟨_, rfl⟩
          rw [← hK] at hgc
          have e2 : decide (0 < (K : Int)) = true := decide_eq_true (by omega)
          obtain ⟨hf4, hfk, hfl⟩ := hft c k hc hk
          have hgr' : grS R D (k + 1) c = ftS R D k c :: grS R D k (R c (ftS R D k c)) := rfl
          rw [hgr'] at ho
          generalize ftS R D k c = f at hf4 hfk hfl ho
          have hkl : k < 1000 := by
            have := congrArg List.length ho
            rw [List.length_append, natI_len, natI_len] at this
            have hgl : ∀ (k c : Nat), (grS R D k c).length = k := by
              intro k
              induction k with
              | zero => intro c; rfl
              | succ k ih => intro c; simp [grS, ih]
            simp [hgl] at this
            omega
          repeat (first | apply Wp.seq | apply Wp.block | (apply Run.next; (simp only [push_cast, seval, List.length_map, hll, hgc, e2] <;> (try simp (disch := omega) only [wI, wU, wC]) <;> exact rfl); (focus ((try simp only [push_cast, seval, List.length_map, hll, hgc, e2]) <;> exact sT))) | ((first | apply Run.nil | apply Wp.skip); dsimp only [sQ, tQ, bQ]) | (apply Wp.run; (dsimp only [List.map] <;> exact rfl); exact rfl) | (apply Wp.exit; dsimp only [sQ, tQ, bQ]; simp only [reduceIte]) | (apply Run.gtrue; (simp only [push_cast, seval, List.length_map, hll, hgc, e2] <;> (try simp (disch := omega) only [wI, wU, wC]) <;> exact rfl); (simp only [push_cast, seval, List.length_map, hll, hgc, e2] <;> (try simp (disch := omega) only [wI, wU, wC]) <;> exact rfl)) | (apply Run.gfalse (.bool false); (simp only [push_cast, seval, List.length_map, hll, hgc, e2] <;> (try simp (disch := omega) only [wI, wU, wC]) <;> exact rfl); dsimp only [S.put, optG]) | (apply Wp.condT; (simp only [push_cast, seval, List.length_map, hll, hgc, e2] <;> (try simp (disch := omega) only [wI, wU, wC]) <;> exact rfl)) | (apply Wp.condF; (simp only [push_cast, seval, List.length_map, hll, hgc, e2] <;> (try simp (disch := omega) only [wI, wU, wC]) <;> exact rfl)))
          refine Wp.loop (fun t : Nat => { t := [(1, .optr 0 0 0 0), (5, .ints Ld), (6, .osl 1 o.length 0 o.length), (7, .int c), (8, .int t)], m := [⟨0, .row 5 [meA w h W a b]⟩, ⟨o.length, .row 1 (o.map AV.int)⟩], n := 53 }) (fun t => t ≤ f) (fun t => f - t) 0 ?_ ?_ ?_
          · (refine Le.of ?_ ?_ rfl rfl <;> (try simp only [push_cast, seval, List.length_map, hll, hgc, e2]) <;> (try (with_reducible rfl)))
            all_goals rfl
          · omega
          · intro t ht
            have hrt := hro c t hcl (by omega)
            have hrg := hgs c t hc (by omega)
            have hrl := hrg.1
            have hgt := hgd (R c t) hrl
            by_cases htf : t < f
            · have hne := hfl t htf
              have e3 : decide (D (R c t) = (K : Int) - 1) = false := decide_eq_false (by omega)
              generalize R c t = rt at hrt hrl hgt hne e3
              generalize D rt = y at hgt hne e3
              repeat (first | apply Wp.seq | apply Wp.block | (apply Run.next; (simp only [push_cast, seval, List.length_map, hll, hgc, hgt, e3] <;> (try simp (disch := omega) only [wI, wU, wC]) <;> exact rfl); (focus ((try simp only [push_cast, seval, List.length_map, hll, hgc, hgt, e3]) <;> exact sT))) | ((first | apply Run.nil | apply Wp.skip); dsimp only [sQ, tQ, bQ]) | (apply Wp.run; (dsimp only [List.map] <;> exact rfl); exact rfl) | (apply Wp.exit; dsimp only [sQ, tQ, bQ]; simp only [reduceIte]) | (apply Run.gtrue; (simp only [push_cast, seval, List.length_map, hll, hgc, hgt, e3] <;> (try simp (disch := omega) only [wI, wU, wC]) <;> exact rfl); (simp only [push_cast, seval, List.length_map, hll, hgc, hgt, e3] <;> (try simp (disch := omega) only [wI, wU, wC]) <;> exact rfl)) | (apply Run.gfalse (.bool false); (simp only [push_cast, seval, List.length_map, hll, hgc, hgt, e3] <;> (try simp (disch := omega) only [wI, wU, wC]) <;> exact rfl); dsimp only [S.put, optG]) | (apply Wp.condT; (simp only [push_cast, seval, List.length_map, hll, hgc, hgt, e3] <;> (try simp (disch := omega) only [wI, wU, wC]) <;> exact rfl)) | (apply Wp.condF; (simp only [push_cast, seval, List.length_map, hll, hgc, hgt, e3] <;> (try simp (disch := omega) only [wI, wU, wC]) <;> exact rfl)))
              (apply Wp.runD 13 mixed; (dsimp only [List.map] <;> exact rfl); exact rfl; kernel_rfl; (dsimp only [List.take] <;> exact rfl); (dsimp only [List.drop] <;> exact rfl); (((repeat (apply Abn.next; (simp only [push_cast, seval, List.length_map, hll, hgc, hgt, e3] <;> (try simp (disch := omega) only [wI, wU, wC]) <;> exact rfl); (focus ((try simp only [push_cast, seval, List.length_map, hll, hgc, hgt, e3]) <;> exact sT)))); (apply Abn.pureP; (simp only [push_cast, seval, List.length_map, hll, hgc, hgt, e3] <;> (try simp (disch := omega) only [wI, wU, wC]) <;> exact rfl); (exact (Enters.of Try.func38 rfl rfl)); (exact hrt); (focus (simp only [push_cast, seval, List.length_map, hll, hgc, hgt, e3] <;> first | trivial | assumption | (refine ⟨?_, ?_⟩ <;> assumption) | (simp; done))); (try dsimp only [putA, optG])); (repeat (apply Abn.next; (simp only [push_cast, seval, List.length_map, hll, hgc, hgt, e3] <;> (try simp (disch := omega) only [wI, wU, wC]) <;> exact rfl); (focus ((try simp only [push_cast, seval, List.length_map, hll, hgc, hgt, e3]) <;> exact sT))))); exact Abn.nil))
              repeat (first | apply Wp.seq | apply Wp.block | (apply Run.next; (simp only [push_cast, seval, List.length_map, hll, hgc, hgt, e3] <;> (try simp (disch := omega) only [wI, wU, wC]) <;> exact rfl); (focus ((try simp only [push_cast, seval, List.length_map, hll, hgc, hgt, e3]) <;> exact sT))) | ((first | apply Run.nil | apply Wp.skip); dsimp only [sQ, tQ, bQ]) | (apply Wp.run; (dsimp only [List.map] <;> exact rfl); exact rfl) | (apply Wp.exit; dsimp only [sQ, tQ, bQ]; simp only [reduceIte]) | (apply Run.gtrue; (simp only [push_cast, seval, List.length_map, hll, hgc, hgt, e3] <;> (try simp (disch := omega) only [wI, wU, wC]) <;> exact rfl); (simp only [push_cast, seval, List.length_map, hll, hgc, hgt, e3] <;> (try simp (disch := omega) only [wI, wU, wC]) <;> exact rfl)) | (apply Run.gfalse (.bool false); (simp only [push_cast, seval, List.length_map, hll, hgc, hgt, e3] <;> (try simp (disch := omega) only [wI, wU, wC]) <;> exact rfl); dsimp only [S.put, optG]) | (apply Wp.condT; (simp only [push_cast, seval, List.length_map, hll, hgc, hgt, e3] <;> (try simp (disch := omega) only [wI, wU, wC]) <;> exact rfl)) | (apply Wp.condF; (simp only [push_cast, seval, List.length_map, hll, hgc, hgt, e3] <;> (try simp (disch := omega) only [wI, wU, wC]) <;> exact rfl)))
              refine ⟨t + 1, ?_, by omega, by omega⟩
              (refine Le.of ?_ ?_ rfl rfl <;> (try simp only [push_cast, seval, List.length_map, hll, hgc, hgt, e3]) <;> (try (with_reducible rfl)))
            · obtain rfl : t = f := by omega
              have e3 : decide (D (R c t) = (K : Int) - 1) = true := decide_eq_true (by omega)
              rw [hfk] at e3 hgt
              generalize R c t = rt at hrt hrg hrl hgt hfk ho
              have hto : o.take o.length = o := List.take_length
              repeat (first | apply Wp.seq | apply Wp.block | (apply Run.next; (simp only [push_cast, seval, List.length_map, hll, hgc, hgt, e3, hto] <;> (try simp (disch := omega) only [wI, wU, wC]) <;> exact rfl); (focus ((try simp only [push_cast, seval, List.length_map, hll, hgc, hgt, e3, hto]) <;> exact sT))) | ((first | apply Run.nil | apply Wp.skip); dsimp only [sQ, tQ, bQ]) | (apply Wp.run; (dsimp only [List.map] <;> exact rfl); exact rfl) | (apply Wp.exit; dsimp only [sQ, tQ, bQ]; simp only [reduceIte]) | (apply Run.gtrue; (simp only [push_cast, seval, List.length_map, hll, hgc, hgt, e3, hto] <;> (try simp (disch := omega) only [wI, wU, wC]) <;> exact rfl); (simp only [push_cast, seval, List.length_map, hll, hgc, hgt, e3, hto] <;> (try simp (disch := omega) only [wI, wU, wC]) <;> exact rfl)) | (apply Run.gfalse (.bool false); (simp only [push_cast, seval, List.length_map, hll, hgc, hgt, e3, hto] <;> (try simp (disch := omega) only [wI, wU, wC]) <;> exact rfl); dsimp only [S.put, optG]) | (apply Wp.condT; (simp only [push_cast, seval, List.length_map, hll, hgc, hgt, e3, hto] <;> (try simp (disch := omega) only [wI, wU, wC]) <;> exact rfl)) | (apply Wp.condF; (simp only [push_cast, seval, List.length_map, hll, hgc, hgt, e3, hto] <;> (try simp (disch := omega) only [wI, wU, wC]) <;> exact rfl)))
              (apply Wp.runD 13 mixed; (dsimp only [List.map] <;> exact rfl); exact rfl; kernel_rfl; (dsimp only [List.take] <;> exact rfl); (dsimp only [List.drop] <;> exact rfl); (((repeat (apply Abn.next; (simp only [push_cast, seval, List.length_map, hll, hgc, hgt, e3, hto] <;> (try simp (disch := omega) only [wI, wU, wC]) <;> exact rfl); (focus ((try simp only [push_cast, seval, List.length_map, hll, hgc, hgt, e3, hto]) <;> exact sT)))); (apply Abn.pureP; (simp only [push_cast, seval, List.length_map, hll, hgc, hgt, e3, hto] <;> (try simp (disch := omega) only [wI, wU, wC]) <;> exact rfl); (exact (Enters.of Try.func38 rfl rfl)); (exact hrt); (focus (simp only [push_cast, seval, List.length_map, hll, hgc, hgt, e3, hto] <;> first | trivial | assumption | (refine ⟨?_, ?_⟩ <;> assumption) | (simp; done))); (try dsimp only [putA, optG])); (repeat (apply Abn.next; (simp only [push_cast, seval, List.length_map, hll, hgc, hgt, e3, hto] <;> (try simp (disch := omega) only [wI, wU, wC]) <;> exact rfl); (focus ((try simp only [push_cast, seval, List.length_map, hll, hgc, hgt, e3, hto]) <;> exact sT))))); exact Abn.nil))
              repeat (first | apply Wp.seq | apply Wp.block | (apply Run.next; (simp only [push_cast, seval, List.length_map, hll, hgc, hgt, e3, hto] <;> (try simp (disch := omega) only [wI, wU, wC]) <;> exact rfl); (focus ((try simp only [push_cast, seval, List.length_map, hll, hgc, hgt, e3, hto]) <;> exact sT))) | ((first | apply Run.nil | apply Wp.skip); dsimp only [sQ, tQ, bQ]) | (apply Wp.run; (dsimp only [List.map] <;> exact rfl); exact rfl) | (apply Wp.exit; dsimp only [sQ, tQ, bQ]; simp only [reduceIte]) | (apply Run.gtrue; (simp only [push_cast, seval, List.length_map, hll, hgc, hgt, e3, hto] <;> (try simp (disch := omega) only [wI, wU, wC]) <;> exact rfl); (simp only [push_cast, seval, List.length_map, hll, hgc, hgt, e3, hto] <;> (try simp (disch := omega) only [wI, wU, wC]) <;> exact rfl)) | (apply Run.gfalse (.bool false); (simp only [push_cast, seval, List.length_map, hll, hgc, hgt, e3, hto] <;> (try simp (disch := omega) only [wI, wU, wC]) <;> exact rfl); dsimp only [S.put, optG]) | (apply Wp.condT; (simp only [push_cast, seval, List.length_map, hll, hgc, hgt, e3, hto] <;> (try simp (disch := omega) only [wI, wU, wC]) <;> exact rfl)) | (apply Wp.condF; (simp only [push_cast, seval, List.length_map, hll, hgc, hgt, e3, hto] <;> (try simp (disch := omega) only [wI, wU, wC]) <;> exact rfl)))
              (apply Run.pureP; (simp only [push_cast, seval, List.length_map, hll, hgc, hgt, e3, hto] <;> (try simp (disch := omega) only [wI, wU, wC]) <;> exact rfl); (exact (Enters.of Try.func38 rfl rfl)); (exact hrt); (focus (simp only [push_cast, seval, List.length_map, hll, hgc, hgt, e3, hto] <;> first | trivial | assumption | (refine ⟨?_, ?_⟩ <;> assumption) | (simp; done))); (try dsimp only [putA, optG]))
              repeat (first | apply Wp.seq | apply Wp.block | (apply Run.next; (simp only [push_cast, seval, List.length_map, hll, hgc, hgt, e3, hto] <;> (try simp (disch := omega) only [wI, wU, wC]) <;> exact rfl); (focus ((try simp only [push_cast, seval, List.length_map, hll, hgc, hgt, e3, hto]) <;> exact sT))) | ((first | apply Run.nil | apply Wp.skip); dsimp only [sQ, tQ, bQ]) | (apply Wp.run; (dsimp only [List.map] <;> exact rfl); exact rfl) | (apply Wp.exit; dsimp only [sQ, tQ, bQ]; simp only [reduceIte]) | (apply Run.gtrue; (simp only [push_cast, seval, List.length_map, hll, hgc, hgt, e3, hto] <;> (try simp (disch := omega) only [wI, wU, wC]) <;> exact rfl); (simp only [push_cast, seval, List.length_map, hll, hgc, hgt, e3, hto] <;> (try simp (disch := omega) only [wI, wU, wC]) <;> exact rfl)) | (apply Run.gfalse (.bool false); (simp only [push_cast, seval, List.length_map, hll, hgc, hgt, e3, hto] <;> (try simp (disch := omega) only [wI, wU, wC]) <;> exact rfl); dsimp only [S.put, optG]) | (apply Wp.condT; (simp only [push_cast, seval, List.length_map, hll, hgc, hgt, e3, hto] <;> (try simp (disch := omega) only [wI, wU, wC]) <;> exact rfl)) | (apply Wp.condF; (simp only [push_cast, seval, List.length_map, hll, hgc, hgt, e3, hto] <;> (try simp (disch := omega) only [wI, wU, wC]) <;> exact rfl)))
              refine ⟨(rt, k, o ++ [(t : Int)]), ?_, ⟨hrg, hfk, by rw [← ho]; simp [natI]⟩, by simp only; omega⟩
              simp only [List.length_append, List.map_append, List.length_cons, List.length_nil]
              (refine Le.of ?_ ?_ rfl rfl <;> (try simp only [push_cast, seval, List.length_map, hll, hgc, hgt, e3, hto]) <;> (try (with_reducible rfl)))
              all_goals trace_state
end Go.Proofs.Try
set_option maxHeartbeats 8000000
set_option maxRecDepth 20000
namespace Go.Proofs.Try
open Go.Vg

/-! the document's Traps -/
structure LI (R : Nat → Nat → Nat) (n a s c t : Nat) (L : List Bool) : Prop where
  len : L.length = n
  snd : ∀ x, x < n → L.getD x false = true → ∃ v, okS v ∧ endW R a v = x
  old : ∀ v, okS v → v.length ≤ s → L.getD (endW R a v) false = true
  cls : ∀ v u, okS v → v.length ≤ s → u < 4 → (endW R a v < c ∨ (endW R a v = c ∧ u < t)) → L.getD (R (endW R a v) u) false = true
theorem getD_setB (L : List Bool) (k x : Nat) (hk : k < L.length) : (L.set k true).getD x false = if x = k then true else L.getD x false := by
  rw [List.getD_eq_getElem?_getD, List.getD_eq_getElem?_getD, List.getElem?_set]
  by_cases h : k = x
  · subst h; rw [if_pos rfl, if_pos rfl, if_pos hk]; rfl
  · rw [if_neg h, if_neg (Ne.symm h)]
section
variable {R : Nat → Nat → Nat} {n a s c t : Nat} {L : List Bool}
theorem LI.step (hR : ∀ c s, c < n → s < 4 → R c s < n) (h : LI R n a s c t L) (hc : c < n) (ht : t < 4) (hl : L.getD c false = true) : LI R n a s c (t + 1) (L.set (R c t) true) := by
  have hk : R c t < L.length := by rw [h.len]; exact hR c t hc ht
  have mono : ∀ x, L.getD x false = true → (L.set (R c t) true).getD x false = true := fun x hx => by rw [getD_setB L _ x hk]; split <;> first | rfl | exact hx
  refine ⟨by simp [h.len], fun x hx h1 => ?_, fun v hv h1 => mono _ (h.old v hv h1), fun v u hv h1 hu h2 => ?_⟩
  · rw [getD_setB L _ x hk] at h1
    split at h1
    · rename_i he
      obtain ⟨v, v1, v2⟩ := h.snd c hc hl
      exact ⟨v ++ [t], okS_snoc.2 ⟨v1, ht⟩, by rw [endW_app, v2, he]; rfl⟩
    · exact h.snd x hx h1
  · by_cases h3 : endW R a v < c ∨ (endW R a v = c ∧ u < t)
    · exact mono _ (h.cls v u hv h1 hu h3)
    · have e1 : endW R a v = c := by omega
      have e2 : u = t := by omega
      rw [e1, e2, getD_setB L _ _ hk, if_pos rfl]
theorem LI.next (h : LI R n a s c 4 L) : LI R n a s (c + 1) 0 L := ⟨h.len, h.snd, h.old, fun v u hv h1 hu h2 => h.cls v u hv h1 hu (by omega)⟩
theorem LI.skip (h : LI R n a s c t L) (hl : L.getD c false = false) : LI R n a s (c + 1) 0 L := ⟨h.len, h.snd, h.old, fun v u hv h1 hu h2 => by
  refine h.cls v u hv h1 hu ?_
  rcases h2 with h2 | h2
  · by_cases h3 : endW R a v = c
    · have := h.old v hv h1
      rw [h3, hl] at this; cases this
    · exact .inl (by omega)
  · omega⟩
theorem endW_ltR (hR : ∀ c s, c < n → s < 4 → R c s < n) : ∀ (v : List Nat) (c : Nat), okS v → c < n → endW R c v < n
  | [], c, _, h => h
  | s :: v, c, hv, h => endW_ltR hR v _ (fun x hx => hv x (by simp [hx])) (hR c s h (hv s (by simp)))
theorem LI.pass (hR : ∀ c s, c < n → s < 4 → R c s < n) (ha : a < n) (h : LI R n a s n 0 L) : LI R n a (s + 1) 0 0 L := by
  refine ⟨h.len, h.snd, fun v hv h1 => ?_, fun v u hv h1 hu h2 => by omega⟩
  by_cases h2 : v.length ≤ s
  · exact h.old v hv h2
  · obtain ⟨u, t, rfl⟩ := snoc_cases (u := v) (by intro e; subst e; simp at h2)
    obtain ⟨hu, ht⟩ := okS_snoc.1 hv
    rw [endW_app]
    exact h.cls u t hu (by simp at h1; omega) ht (.inl (endW_ltR hR u a hu ha))
theorem LI.start (ha : a < n) : LI R n a 0 0 0 ((List.replicate n false).set a true) := by
  have hk : a < (List.replicate n false).length := by simpa using ha
  refine ⟨by simp, fun x hx h1 => ?_, fun v hv h1 => ?_, fun v u hv h1 hu h2 => by omega⟩
  · rw [getD_setB _ _ x hk] at h1
    split at h1
    · rename_i e; exact ⟨[], fun x hx => (by cases hx), e.symm⟩
    · simp [hx] at h1
  · have : v = [] := List.eq_nil_of_length_eq_zero (by omega)
    subst this
    rw [getD_setB _ _ _ hk]; exact if_pos rfl
theorem LI.done (hR : ∀ c s, c < n → s < 4 → R c s < n) (ha : a < n) (h : LI R n a n 0 0 L) {x : Nat} (hx : x < n) : L.getD x false = knB (bfs R n a) x := by
  cases hk : knB (bfs R n a) x with
  | true =>
    obtain ⟨v, v1, v2, v3⟩ := bfs_short R hR ha ((bfs_iff R hR ha).1 hk)
    rw [← v2]; exact h.old v v1 (by omega)
  | false =>
    cases hl : L.getD x false with
    | false => rfl
    | true =>
      obtain ⟨v, v1, v2⟩ := h.snd x hx hl
      rw [(bfs_iff R hR ha).2 ⟨v, v1, v2⟩] at hk; cases hk
end
def trD (L : List Bool) (D : Nat → Int) (k : Nat) : List Int := (List.range k).flatMap fun c : Nat => if (L.getD c false && decide (D c < 0)) = true then [(c : Int)] else []
theorem trD_snoc (L : List Bool) (D : Nat → Int) (k : Nat) : trD L D (k + 1) = trD L D k ++ (if (L.getD k false && decide (D k < 0)) = true then [(k : Int)] else []) := by
  unfold trD; rw [List.range_succ, List.flatMap_append]; simp
theorem trD_len (L : List Bool) (D : Nat → Int) : ∀ k, (trD L D k).length ≤ k
  | 0 => by simp [trD]
  | k + 1 => by
    have := trD_len L D k
    rw [trD_snoc, List.length_append]
    split
    · simp; omega
    · simp; omega
theorem trD_mem {L : List Bool} {D : Nat → Int} {k : Nat} {y : Int} : y ∈ trD L D k ↔ ∃ c : Nat, c < k ∧ y = (c : Int) ∧ L.getD c false = true ∧ D c < 0 := by
  unfold trD
  rw [List.mem_flatMap]
  constructor
  · rintro ⟨c, hc, h⟩
    split at h
    · rename_i h2
      simp only [Bool.and_eq_true, decide_eq_true_eq] at h2
      exact ⟨c, List.mem_range.1 hc, by simpa using h, h2.1, h2.2⟩
    · cases h
  · rintro ⟨c, hc, rfl, h1, h2⟩
    exact ⟨c, List.mem_range.2 hc, by rw [if_pos (by rw [h1, decide_eq_true h2]; rfl)]; simp⟩
theorem trD_asc (L : List Bool) (D : Nat → Int) : ∀ k, List.Pairwise (· < ·) (trD L D k)
  | 0 => by simp [trD]
  | k + 1 => by
    rw [trD_snoc, List.pairwise_append]
    refine ⟨trD_asc L D k, by split <;> simp, fun x hx y hy => ?_⟩
    obtain ⟨c, hc, rfl, _⟩ := trD_mem.1 hx
    split at hy
    · have : y = (k : Int) := by simpa using hy
      omega
    · cases hy
theorem outT_mem {R : Nat → Nat → Nat} {n : Nat} {Q : QL} {b k : Nat} {y : Int} : y ∈ outT R n Q b k ↔ ∃ j : Nat, j < k ∧ y = (qc Q j : Int) ∧ knB (bfs R n (qc Q j)) b = false := by
  unfold outT
  rw [List.mem_flatMap]
  constructor
  · rintro ⟨j, hj, h⟩
    split at h
    · cases h
    · rename_i h2
      exact ⟨j, List.mem_range.1 hj, by simpa using h, by simpa using h2⟩
  · rintro ⟨j, hj, rfl, h1⟩
    exact ⟨j, List.mem_range.2 hj, by rw [if_neg (by rw [h1]; simp)]; simp⟩
theorem outT_nodup {R : Nat → Nat → Nat} {n a i s b : Nat} {Q : QL} (h : BI R a Q i s) : ∀ k, k ≤ Q.length → (outT R n Q b k).Nodup
  | 0, _ => by simp [outT]
  | k + 1, hk => by
    rw [outT_snoc, List.nodup_append]
    refine ⟨outT_nodup h k (by omega), by split <;> simp, fun x hx y hy => ?_⟩
    obtain ⟨j, hj, rfl, _⟩ := outT_mem.1 hx
    split at hy
    · cases hy
    · have : y = (qc Q k : Int) := by simpa using hy
      subst this
      intro e
      have := h.apart R (j := j) (k := k) (by omega) (by omega) (by omega)
      omega
theorem traps_same {w h : Int} {W : List Bool} (hz : MZ w h W) {a b : Nat} (ha : GC W a) {L : List Bool} (hL : ∀ x, x < W.length → L.getD x false = knB (bfs (rlC w h W) W.length a) x) :
    srtI (outT (rlC w h W) W.length (bfs (rlC w h W) W.length a) b (bfs (rlC w h W) W.length a).length) = trD L (dF w h W b) W.length := by
  have hR : ∀ c s, c < W.length → s < 4 → rlC w h W c s < W.length := fun c s hc _ => rl_lt hz hc
  obtain ⟨hBI, hQB⟩ := bfs_is (rlC w h W) hR ha.1
  have hfree : ∀ v c, okS v → GC W c → GC W (endW (rlC w h W) c v) := by
    intro v
    induction v with
    | nil => intro c _ hc; exact hc
    | cons s v ih => intro c hv hc; exact ih _ (fun x hx => hv x (by simp [hx])) (gc_step hz c s hc (hv s (by simp)))
  have hasc := trD_asc L (dF w h W b) W.length
  have hnd : (trD L (dF w h W b) W.length).Nodup := hasc.imp fun h => by omega
  have hperm : srtI (outT (rlC w h W) W.length (bfs (rlC w h W) W.length a) b (bfs (rlC w h W) W.length a).length) |>.Perm (trD L (dF w h W b) W.length) := by
    refine (List.mergeSort_perm _ _).trans ?_
    rw [List.perm_ext_iff_of_nodup (outT_nodup hBI _ (Nat.le_refl _)) hnd]
    intro y
    rw [outT_mem, trD_mem]
    constructor
    · rintro ⟨j, hj, rfl, h1⟩
      have hlt := qc_lt hQB hj
      have hkn : knB (bfs (rlC w h W) W.length a) (qc (bfs (rlC w h W) W.length a) j) = true := knB_iff.2 ⟨j, hj, rfl⟩
      obtain ⟨v, v1, v2⟩ := (bfs_iff (rlC w h W) hR ha.1).1 hkn
      have hg := hfree v a v1 ha
      rw [v2] at hg
      exact ⟨_, hlt, rfl, by rw [hL _ hlt]; exact hkn, (esc_none hz hg).1 (wayQ_none.2 h1)⟩
    · rintro ⟨c, hc, rfl, h1, h2⟩
      rw [hL c hc] at h1
      obtain ⟨j, hj, hjc⟩ := knB_iff.1 h1
      obtain ⟨v, v1, v2⟩ := (bfs_iff (rlC w h W) hR ha.1).1 h1
      have hg := hfree v a v1 ha
      rw [v2] at hg
      exact ⟨j, hj, by rw [hjc], by rw [hjc]; exact wayQ_none.1 ((esc_none hz hg).2 h2)⟩
  refine List.Perm.eq_of_pairwise (le := (· ≤ ·)) (fun x y _ _ h1 h2 => Int.le_antisymm h1 h2) ?_ (hasc.imp fun h => Int.le_of_lt h) hperm
  have := List.pairwise_mergeSort (le := fun x y : Int => decide (x ≤ y)) (fun a b c h1 h2 => by simp at *; omega) (fun a b => by simp; omega) (outT (rlC w h W) W.length (bfs (rlC w h W) W.length a) b (bfs (rlC w h W) W.length a).length)
  exact this.imp fun h => by simpa using h
end Go.Proofs.Try
