/- A part of the proof of StoreWorn: contracts of functions, with plain laws that they need. -/
import Derived.Test.YtljchlkmalidnaaVgYKJ
set_option linter.all false
set_option maxHeartbeats 8000000
namespace Go.Proofs.Try
open Go.Vg

/-! no item is used up more than it may be: the statement -/
theorem gluS_rp {ks : List St} {ls : List Ln} (hv : SV ks ls) (h : exA ks ls = true) : RP ks ls (gluS ks ls) := by
  refine srch_rp (glue_first hv fun k hk => ?_)
  have := List.all_eq_true.1 h k (List.mem_range.2 hk)
  obtain ⟨x, hx⟩ := Option.isSome_iff_exists.1 this
  have hx' : srK ks ls k = some x := hx
  simp only [hx']
  exact hx
def lsB (l : List (Int × Int)) (k j : Int) (m : Nat) : Bool := (l.take m).any fun p => decide (p.1 = k) && decide (p.2 = j)
theorem lsB_succ (l : List (Int × Int)) (k j : Int) {m : Nat} (h : m < l.length) : lsB l k j (m + 1) = (lsB l k j m || (decide ((l.getD m (0, 0)).1 = k) && decide ((l.getD m (0, 0)).2 = j))) := by
  unfold lsB
  rw [List.take_add_one, List.getElem?_eq_getElem h, List.any_append]
  simp [h]
theorem tmod_bd (a : Int) {n : Int} (h : 0 < n) : -n < a.tmod n ∧ a.tmod n < n ∧ (0 ≤ a → 0 ≤ a.tmod n) := by
  refine ⟨?_, Int.tmod_lt_of_pos a h, fun h0 => Int.tmod_nonneg n h0⟩
  rcases Int.le_total 0 a with h0 | h0
  · have := Int.tmod_nonneg n h0; omega
  · have h1 := Int.tmod_lt_of_pos (-a) h
    rw [Int.neg_tmod] at h1; omega
theorem rest_bd (a : Int) {n : Int} (h : 0 < n) : 0 ≤ (a.tmod n + n).tmod n ∧ (a.tmod n + n).tmod n < n := by
  have h1 := tmod_bd a h
  have h2 := tmod_bd (a.tmod n + n) h
  exact ⟨h2.2.2 (by omega), h2.2.1⟩
theorem usP_bd {ks : List St} {ls : List Ln} (hv : SV ks ls) (k : Int) : ∀ i, i ≤ ls.length → 0 ≤ usP ls k i ∧ usP ls k i ≤ 100 * (i : Int) ∧ usP ls k i ≤ usP ls k ls.length
  | i, hi => by
    have h0 : ∀ i, i ≤ ls.length → 0 ≤ usP ls k i ∧ usP ls k i ≤ 100 * (i : Int) := by
      intro i
      induction i with
      | zero => intro _; simp [usP]
      | succ i ih =>
        intro hi
        have := ih (by omega)
        have := (hv.ln i (by omega)).2.2
        simp only [usP]; split <;> omega
    have h1 : ∀ d, i + d ≤ ls.length → usP ls k i ≤ usP ls k (i + d) := by
      intro d
      induction d with
      | zero => intro _; exact Int.le_refl _
      | succ d ih =>
        intro hd
        have := ih (by omega)
        have := (hv.ln (i + d) (by omega)).2.2
        rw [← Nat.add_assoc]
        simp only [usP]; split <;> omega
    have h2 := h1 (ls.length - i) (by omega)
    rw [show i + (ls.length - i) = ls.length by omega] at h2
    exact ⟨(h0 i hi).1, (h0 i hi).2, h2⟩
theorem smL_bd {l : List Int} (h : ∀ j, j < l.length → 0 ≤ l.getD j 0 ∧ l.getD j 0 ≤ 100) : ∀ i, i ≤ l.length → 0 ≤ smL l i ∧ smL l i ≤ 100 * (i : Int)
  | 0, _ => by simp [smL]
  | i + 1, hi => by have := smL_bd h i (by omega); have := h i (by omega); simp only [smL]; omega
theorem lawWorn_pure (ks : List St) (ls : List Ln) (kind : Int) (hk : ks.length ≤ 9223372036854775807) (hl : ls.length ≤ 9223372036854775807) (hkd : -9223372036854775808 ≤ kind ∧ kind ≤ 9223372036854775807) : Pure Try.prog 8 [storA ks ls, .int kind] (.bool true) := by
  have hg := large_pure ks ls hk hl
  have hw := works_pure
  have c1 := Plan_pure ks ls hk hl
  generalize lgS ks ls = g at hg
  by_cases hB : ks = []
  · subst hB
    (refine Spec.of_body Try.func8 rfl (by rw [Try.ntmps8]; simp) 0 (by simp) ?_; rw [Try.results8, Try.ntmps8]; simp only [entry, zipArgs, Nat.reduceAdd])
    repeat (first | apply Wp.seq | apply Wp.block | (apply Run.next; (simp only [push_cast, seval] <;> (try simp (disch := omega) only [wI, wU, wC]) <;> exact rfl); (focus ((try simp only [push_cast, seval]) <;> exact sT))) | ((first | apply Run.nil | apply Wp.skip); dsimp only [sQ, tQ, bQ]) | (apply Wp.run; (dsimp only [List.map] <;> exact rfl); exact rfl) | (apply Wp.exit; dsimp only [sQ, tQ, bQ]; simp only [reduceIte]))
    (apply Run.pureP; (simp only [push_cast, seval] <;> (try simp (disch := omega) only [wI, wU, wC]) <;> exact rfl); (exact (Enters.of Try.func15 rfl rfl)); (exact hg); (focus (simp only [push_cast, seval] <;> first | trivial | assumption | (refine ⟨?_, ?_⟩ <;> assumption) | (simp; done))); (try dsimp only [putA, optG]))
    repeat (first | apply Wp.seq | apply Wp.block | (apply Run.next; (simp only [push_cast, seval] <;> (try simp (disch := omega) only [wI, wU, wC]) <;> exact rfl); (focus ((try simp only [push_cast, seval]) <;> exact sT))) | ((first | apply Run.nil | apply Wp.skip); dsimp only [sQ, tQ, bQ]) | (apply Wp.run; (dsimp only [List.map] <;> exact rfl); exact rfl) | (apply Wp.exit; dsimp only [sQ, tQ, bQ]; simp only [reduceIte]) | (apply Run.gtrue; (simp only [push_cast, seval] <;> (try simp (disch := omega) only [wI, wU, wC]) <;> exact rfl); (simp only [push_cast, seval] <;> (try simp (disch := omega) only [wI, wU, wC]) <;> exact rfl)) | (apply Run.gfalse (.bool false); (simp only [push_cast, seval] <;> (try simp (disch := omega) only [wI, wU, wC]) <;> exact rfl); dsimp only [S.put, optG]) | (apply Wp.condT; (simp only [push_cast, seval] <;> (try simp (disch := omega) only [wI, wU, wC]) <;> exact rfl)) | (apply Wp.condF; (simp only [push_cast, seval] <;> (try simp (disch := omega) only [wI, wU, wC]) <;> exact rfl)))
    cases g <;>
    (repeat (first | apply Wp.seq | apply Wp.block | (apply Run.next; (simp only [push_cast, seval] <;> (try simp (disch := omega) only [wI, wU, wC]) <;> exact rfl); (focus ((try simp only [push_cast, seval]) <;> exact sT))) | ((first | apply Run.nil | apply Wp.skip); dsimp only [sQ, tQ, bQ]) | (apply Wp.run; (dsimp only [List.map] <;> exact rfl); exact rfl) | (apply Wp.exit; dsimp only [sQ, tQ, bQ]; simp only [reduceIte]) | (apply Run.gtrue; (simp only [push_cast, seval] <;> (try simp (disch := omega) only [wI, wU, wC]) <;> exact rfl); (simp only [push_cast, seval] <;> (try simp (disch := omega) only [wI, wU, wC]) <;> exact rfl)) | (apply Run.gfalse (.bool false); (simp only [push_cast, seval] <;> (try simp (disch := omega) only [wI, wU, wC]) <;> exact rfl); dsimp only [S.put, optG]) | (apply Wp.condT; (simp only [push_cast, seval] <;> (try simp (disch := omega) only [wI, wU, wC]) <;> exact rfl)) | (apply Wp.condF; (simp only [push_cast, seval] <;> (try simp (disch := omega) only [wI, wU, wC]) <;> exact rfl)))
     (apply Run.pureP; (simp only [push_cast, seval] <;> (try simp (disch := omega) only [wI, wU, wC]) <;> exact rfl); (exact (Enters.of Try.func16 rfl rfl)); (exact hw); (focus (simp only [push_cast, seval] <;> first | trivial | assumption | (refine ⟨?_, ?_⟩ <;> assumption) | (simp; done))); (try dsimp only [putA, optG]))
     repeat (first | apply Wp.seq | apply Wp.block | (apply Run.next; (simp only [push_cast, seval] <;> (try simp (disch := omega) only [wI, wU, wC]) <;> exact rfl); (focus ((try simp only [push_cast, seval]) <;> exact sT))) | ((first | apply Run.nil | apply Wp.skip); dsimp only [sQ, tQ, bQ]) | (apply Wp.run; (dsimp only [List.map] <;> exact rfl); exact rfl) | (apply Wp.exit; dsimp only [sQ, tQ, bQ]; simp only [reduceIte]) | (apply Run.gtrue; (simp only [push_cast, seval] <;> (try simp (disch := omega) only [wI, wU, wC]) <;> exact rfl); (simp only [push_cast, seval] <;> (try simp (disch := omega) only [wI, wU, wC]) <;> exact rfl)) | (apply Run.gfalse (.bool false); (simp only [push_cast, seval] <;> (try simp (disch := omega) only [wI, wU, wC]) <;> exact rfl); dsimp only [S.put, optG]) | (apply Wp.condT; (simp only [push_cast, seval] <;> (try simp (disch := omega) only [wI, wU, wC]) <;> exact rfl)) | (apply Wp.condF; (simp only [push_cast, seval] <;> (try simp (disch := omega) only [wI, wU, wC]) <;> exact rfl)))
     (apply Wp.ret; (try dsimp only [sQ, tQ, bQ]); apply leave0; exact rfl; (simp only [push_cast, seval] <;> (try simp (disch := omega) only [wI, wU, wC]) <;> exact rfl); all_goals (try simp only [push_cast, seval]); (try rfl)))
  · have hn0 : 0 < (ks.length : Int) := by have := List.length_pos_iff.2 hB; omega
    have e0 : decide ((ks.length : Int) = 0) = false := decide_eq_false (by omega)
    cases g with
    | true =>
      (refine Spec.of_body Try.func8 rfl (by rw [Try.ntmps8]; simp) 0 (by simp) ?_; rw [Try.results8, Try.ntmps8]; simp only [entry, zipArgs, Nat.reduceAdd])
      repeat (first | apply Wp.seq | apply Wp.block | (apply Run.next; (simp only [push_cast, seval] <;> (try simp (disch := omega) only [wI, wU, wC]) <;> exact rfl); (focus ((try simp only [push_cast, seval]) <;> exact sT))) | ((first | apply Run.nil | apply Wp.skip); dsimp only [sQ, tQ, bQ]) | (apply Wp.run; (dsimp only [List.map] <;> exact rfl); exact rfl) | (apply Wp.exit; dsimp only [sQ, tQ, bQ]; simp only [reduceIte]))
      (apply Run.pureP; (simp only [push_cast, seval] <;> (try simp (disch := omega) only [wI, wU, wC]) <;> exact rfl); (exact (Enters.of Try.func15 rfl rfl)); (exact hg); (focus (simp only [push_cast, seval] <;> first | trivial | assumption | (refine ⟨?_, ?_⟩ <;> assumption) | (simp; done))); (try dsimp only [putA, optG]))
      repeat (first | apply Wp.seq | apply Wp.block | (apply Run.next; (simp only [push_cast, seval] <;> (try simp (disch := omega) only [wI, wU, wC]) <;> exact rfl); (focus ((try simp only [push_cast, seval]) <;> exact sT))) | ((first | apply Run.nil | apply Wp.skip); dsimp only [sQ, tQ, bQ]) | (apply Wp.run; (dsimp only [List.map] <;> exact rfl); exact rfl) | (apply Wp.exit; dsimp only [sQ, tQ, bQ]; simp only [reduceIte]) | (apply Run.gtrue; (simp only [push_cast, seval] <;> (try simp (disch := omega) only [wI, wU, wC]) <;> exact rfl); (simp only [push_cast, seval] <;> (try simp (disch := omega) only [wI, wU, wC]) <;> exact rfl)) | (apply Run.gfalse (.bool false); (simp only [push_cast, seval] <;> (try simp (disch := omega) only [wI, wU, wC]) <;> exact rfl); dsimp only [S.put, optG]) | (apply Wp.condT; (simp only [push_cast, seval] <;> (try simp (disch := omega) only [wI, wU, wC]) <;> exact rfl)) | (apply Wp.condF; (simp only [push_cast, seval] <;> (try simp (disch := omega) only [wI, wU, wC]) <;> exact rfl)))
      (apply Run.pureP; (simp only [push_cast, seval] <;> (try simp (disch := omega) only [wI, wU, wC]) <;> exact rfl); (exact (Enters.of Try.func16 rfl rfl)); (exact hw); (focus (simp only [push_cast, seval] <;> first | trivial | assumption | (refine ⟨?_, ?_⟩ <;> assumption) | (simp; done))); (try dsimp only [putA, optG]))
      repeat (first | apply Wp.seq | apply Wp.block | (apply Run.next; (simp only [push_cast, seval] <;> (try simp (disch := omega) only [wI, wU, wC]) <;> exact rfl); (focus ((try simp only [push_cast, seval]) <;> exact sT))) | ((first | apply Run.nil | apply Wp.skip); dsimp only [sQ, tQ, bQ]) | (apply Wp.run; (dsimp only [List.map] <;> exact rfl); exact rfl) | (apply Wp.exit; dsimp only [sQ, tQ, bQ]; simp only [reduceIte]) | (apply Run.gtrue; (simp only [push_cast, seval] <;> (try simp (disch := omega) only [wI, wU, wC]) <;> exact rfl); (simp only [push_cast, seval] <;> (try simp (disch := omega) only [wI, wU, wC]) <;> exact rfl)) | (apply Run.gfalse (.bool false); (simp only [push_cast, seval] <;> (try simp (disch := omega) only [wI, wU, wC]) <;> exact rfl); dsimp only [S.put, optG]) | (apply Wp.condT; (simp only [push_cast, seval] <;> (try simp (disch := omega) only [wI, wU, wC]) <;> exact rfl)) | (apply Wp.condF; (simp only [push_cast, seval] <;> (try simp (disch := omega) only [wI, wU, wC]) <;> exact rfl)))
      (apply Wp.ret; (try dsimp only [sQ, tQ, bQ]); apply leave0; exact rfl; (simp only [push_cast, seval] <;> (try simp (disch := omega) only [wI, wU, wC]) <;> exact rfl); all_goals (try simp only [push_cast, seval]); (try rfl))
    | false =>
      by_cases hE : plnE ks ls = 0
      · obtain ⟨hc0, hx⟩ : chkE ks ls = 0 ∧ exA ks ls = true := by
          unfold plnE at hE
          split at hE
          · rename_i h
            split at hE
            · rename_i h2; exact ⟨h, h2⟩
            · simp at hE
          · rename_i h; exact absurd hE h
        have hv := chkE_ok hc0
        have hrp := gluS_rp hv hx
        have hc2 := hrp.chk hc0
        have hk8 := hv.k8
        have hl20 := hv.l20
        rw [hE, show plnA ks ls = .ints (gluS ks ls) by unfold plnA; rw [if_pos ⟨hc0, hx⟩]] at c1
        generalize gluS ks ls = gl at *
        have hrb := rest_bd kind hn0
        have htb := tmod_bd kind hn0
        generalize hK1 : kind.tmod ks.length = K1 at hrb htb
        generalize hK : (K1 + ks.length).tmod ks.length = K at hrb
        obtain ⟨k, rfl⟩ : ∃ k : Nat, K = (k : Int) := ⟨K.toNat, by omega⟩
        have hkk : k < ks.length := by omega
        have hst := hv.st k hkk
        have c2 := pwear_pure ks ls gl (k : Int) hk hl (by have := hrp.len; omega)
        have c3 := worn_pure ks ls gl hk hl (by have := hrp.len; omega)
        rw [show wearV ks ls gl (k : Int) = (.ints (wearP ls gl (k : Int) (ks.getD k st0).items.toNat ls.length), 0) by unfold wearV; rw [if_pos hc2, if_pos (by rw [wi_iff]; omega), Int.toNat_natCast]] at c2
        rw [show wornV ks ls gl = (.lst 2 ((wnP ks ls gl ks.length).map prA), 0) by unfold wornV; rw [if_pos hc2]] at c3
        have hwl := wearP_len ls gl (k : Int) (ks.getD k st0).items.toNat ls.length
        have hwb := fun j (hj : j < (ks.getD k st0).items.toNat) => wear_life hv hrp hkk hj
        have hwi := fun j (hj : j < (ks.getD k st0).items.toNat) => worn_iff hv hrp hkk hj
        have hws := wear_sum hv hrp hkk
        have hwn := wnP_len hv gl ks.length (Nat.le_refl _)
        have hub := fun i => usP_bd hv (k : Int) i
        generalize wearP ls gl (k : Int) (ks.getD k st0).items.toNat ls.length = w at *
        generalize wnP ks ls gl ks.length = wn at *
        generalize hy : ks.getD k st0 = y at *
        have hsb := fun i (hi : i ≤ w.length) => smL_bd (l := w) (fun j hj => by have := hwb j (by omega); omega) i hi
        have e3 : decide ((y.items.toNat : Int) = y.items) = true := decide_eq_true (by omega)
        (refine Spec.of_body Try.func8 rfl (by rw [Try.ntmps8]; simp) 0 (by simp) ?_; rw [Try.results8, Try.ntmps8]; simp only [entry, zipArgs, Nat.reduceAdd])
        repeat (first | apply Wp.seq | apply Wp.block | (apply Run.next; (simp only [push_cast, seval, e0, hK1, hK, hy, hwl, e3, Bool.or_false, Bool.false_or, Bool.not_true] <;> (try simp (disch := omega) only [wI, wU, wC]) <;> exact rfl); (focus ((try simp only [push_cast, seval, e0, hK1, hK, hy, hwl, e3, Bool.or_false, Bool.false_or, Bool.not_true]) <;> exact sT))) | ((first | apply Run.nil | apply Wp.skip); dsimp only [sQ, tQ, bQ]) | (apply Wp.run; (dsimp only [List.map] <;> exact rfl); exact rfl) | (apply Wp.exit; dsimp only [sQ, tQ, bQ]; simp only [reduceIte]))
        (apply Run.pureP; (simp only [push_cast, seval, e0, hK1, hK, hy, hwl, e3, Bool.or_false, Bool.false_or, Bool.not_true] <;> (try simp (disch := omega) only [wI, wU, wC]) <;> exact rfl); (exact (Enters.of Try.func15 rfl rfl)); (exact hg); (focus (simp only [push_cast, seval, e0, hK1, hK, hy, hwl, e3, Bool.or_false, Bool.false_or, Bool.not_true] <;> first | trivial | assumption | (refine ⟨?_, ?_⟩ <;> assumption) | (simp; done))); (try dsimp only [putA, optG]))
        repeat (first | apply Wp.seq | apply Wp.block | (apply Run.next; (simp only [push_cast, seval, e0, hK1, hK, hy, hwl, e3, Bool.or_false, Bool.false_or, Bool.not_true] <;> (try simp (disch := omega) only [wI, wU, wC]) <;> exact rfl); (focus ((try simp only [push_cast, seval, e0, hK1, hK, hy, hwl, e3, Bool.or_false, Bool.false_or, Bool.not_true]) <;> exact sT))) | ((first | apply Run.nil | apply Wp.skip); dsimp only [sQ, tQ, bQ]) | (apply Wp.run; (dsimp only [List.map] <;> exact rfl); exact rfl) | (apply Wp.exit; dsimp only [sQ, tQ, bQ]; simp only [reduceIte]) | (apply Run.gtrue; (simp only [push_cast, seval, e0, hK1, hK, hy, hwl, e3, Bool.or_false, Bool.false_or, Bool.not_true] <;> (try simp (disch := omega) only [wI, wU, wC]) <;> exact rfl); (simp only [push_cast, seval, e0, hK1, hK, hy, hwl, e3, Bool.or_false, Bool.false_or, Bool.not_true] <;> (try simp (disch := omega) only [wI, wU, wC]) <;> exact rfl)) | (apply Run.gfalse (.bool false); (simp only [push_cast, seval, e0, hK1, hK, hy, hwl, e3, Bool.or_false, Bool.false_or, Bool.not_true] <;> (try simp (disch := omega) only [wI, wU, wC]) <;> exact rfl); dsimp only [S.put, optG]) | (apply Wp.condT; (simp only [push_cast, seval, e0, hK1, hK, hy, hwl, e3, Bool.or_false, Bool.false_or, Bool.not_true] <;> (try simp (disch := omega) only [wI, wU, wC]) <;> exact rfl)) | (apply Wp.condF; (simp only [push_cast, seval, e0, hK1, hK, hy, hwl, e3, Bool.or_false, Bool.false_or, Bool.not_true] <;> (try simp (disch := omega) only [wI, wU, wC]) <;> exact rfl)))
        (apply Run.pureFP; (simp only [push_cast, seval, e0, hK1, hK, hy, hwl, e3, Bool.or_false, Bool.false_or, Bool.not_true] <;> (try simp (disch := omega) only [wI, wU, wC]) <;> exact rfl); (exact (Enters.of Try.func25 rfl rfl)); (exact c1); (focus (simp only [push_cast, seval, e0, hK1, hK, hy, hwl, e3, Bool.or_false, Bool.false_or, Bool.not_true] <;> first | trivial | assumption | (refine ⟨?_, ?_⟩ <;> assumption) | (simp; done))); (try dsimp only [putA, optG]))
        repeat (first | apply Wp.seq | apply Wp.block | (apply Run.next; (simp only [push_cast, seval, e0, hK1, hK, hy, hwl, e3, Bool.or_false, Bool.false_or, Bool.not_true] <;> (try simp (disch := omega) only [wI, wU, wC]) <;> exact rfl); (focus ((try simp only [push_cast, seval, e0, hK1, hK, hy, hwl, e3, Bool.or_false, Bool.false_or, Bool.not_true]) <;> exact sT))) | ((first | apply Run.nil | apply Wp.skip); dsimp only [sQ, tQ, bQ]) | (apply Wp.run; (dsimp only [List.map] <;> exact rfl); exact rfl) | (apply Wp.exit; dsimp only [sQ, tQ, bQ]; simp only [reduceIte]) | (apply Run.gtrue; (simp only [push_cast, seval, e0, hK1, hK, hy, hwl, e3, Bool.or_false, Bool.false_or, Bool.not_true] <;> (try simp (disch := omega) only [wI, wU, wC]) <;> exact rfl); (simp only [push_cast, seval, e0, hK1, hK, hy, hwl, e3, Bool.or_false, Bool.false_or, Bool.not_true] <;> (try simp (disch := omega) only [wI, wU, wC]) <;> exact rfl)) | (apply Run.gfalse (.bool false); (simp only [push_cast, seval, e0, hK1, hK, hy, hwl, e3, Bool.or_false, Bool.false_or, Bool.not_true] <;> (try simp (disch := omega) only [wI, wU, wC]) <;> exact rfl); dsimp only [S.put, optG]) | (apply Wp.condT; (simp only [push_cast, seval, e0, hK1, hK, hy, hwl, e3, Bool.or_false, Bool.false_or, Bool.not_true] <;> (try simp (disch := omega) only [wI, wU, wC]) <;> exact rfl)) | (apply Wp.condF; (simp only [push_cast, seval, e0, hK1, hK, hy, hwl, e3, Bool.or_false, Bool.false_or, Bool.not_true] <;> (try simp (disch := omega) only [wI, wU, wC]) <;> exact rfl)))
        (apply Wp.runD 14 mixed; (dsimp only [List.map] <;> exact rfl); exact rfl; kernel_rfl; (dsimp only [List.take] <;> exact rfl); (dsimp only [List.drop] <;> exact rfl); (((repeat (apply Abn.next; (simp only [push_cast, seval, e0, hK1, hK, hy, hwl, e3, Bool.or_false, Bool.false_or, Bool.not_true] <;> (try simp (disch := omega) only [wI, wU, wC]) <;> exact rfl); (focus ((try simp only [push_cast, seval, e0, hK1, hK, hy, hwl, e3, Bool.or_false, Bool.false_or, Bool.not_true]) <;> exact sT))))); exact Abn.nil))
        repeat (first | apply Wp.seq | apply Wp.block | (apply Run.next; (simp only [push_cast, seval, e0, hK1, hK, hy, hwl, e3, Bool.or_false, Bool.false_or, Bool.not_true] <;> (try simp (disch := omega) only [wI, wU, wC]) <;> exact rfl); (focus ((try simp only [push_cast, seval, e0, hK1, hK, hy, hwl, e3, Bool.or_false, Bool.false_or, Bool.not_true]) <;> exact sT))) | ((first | apply Run.nil | apply Wp.skip); dsimp only [sQ, tQ, bQ]) | (apply Wp.run; (dsimp only [List.map] <;> exact rfl); exact rfl) | (apply Wp.exit; dsimp only [sQ, tQ, bQ]; simp only [reduceIte]))
        (apply Run.pureFP; (simp only [push_cast, seval, e0, hK1, hK, hy, hwl, e3, Bool.or_false, Bool.false_or, Bool.not_true] <;> (try simp (disch := omega) only [wI, wU, wC]) <;> exact rfl); (exact (Enters.of Try.func35 rfl rfl)); (exact c2); (focus (simp only [push_cast, seval, e0, hK1, hK, hy, hwl, e3, Bool.or_false, Bool.false_or, Bool.not_true] <;> first | trivial | assumption | (refine ⟨?_, ?_⟩ <;> assumption) | (simp; done))); (try dsimp only [putA, optG]))
        repeat (first | apply Wp.seq | apply Wp.block | (apply Run.next; (simp only [push_cast, seval, e0, hK1, hK, hy, hwl, e3, Bool.or_false, Bool.false_or, Bool.not_true] <;> (try simp (disch := omega) only [wI, wU, wC]) <;> exact rfl); (focus ((try simp only [push_cast, seval, e0, hK1, hK, hy, hwl, e3, Bool.or_false, Bool.false_or, Bool.not_true]) <;> exact sT))) | ((first | apply Run.nil | apply Wp.skip); dsimp only [sQ, tQ, bQ]) | (apply Wp.run; (dsimp only [List.map] <;> exact rfl); exact rfl) | (apply Wp.exit; dsimp only [sQ, tQ, bQ]; simp only [reduceIte]))
        (apply Run.pureFP; (simp only [push_cast, seval, e0, hK1, hK, hy, hwl, e3, Bool.or_false, Bool.false_or, Bool.not_true] <;> (try simp (disch := omega) only [wI, wU, wC]) <;> exact rfl); (exact (Enters.of Try.func37 rfl rfl)); (exact c3); (focus (simp only [push_cast, seval, e0, hK1, hK, hy, hwl, e3, Bool.or_false, Bool.false_or, Bool.not_true] <;> first | trivial | assumption | (refine ⟨?_, ?_⟩ <;> assumption) | (simp; done))); (try dsimp only [putA, optG]))
        repeat (first | apply Wp.seq | apply Wp.block | (apply Run.next; (simp only [push_cast, seval, e0, hK1, hK, hy, hwl, e3, Bool.or_false, Bool.false_or, Bool.not_true] <;> (try simp (disch := omega) only [wI, wU, wC]) <;> exact rfl); (focus ((try simp only [push_cast, seval, e0, hK1, hK, hy, hwl, e3, Bool.or_false, Bool.false_or, Bool.not_true]) <;> exact sT))) | ((first | apply Run.nil | apply Wp.skip); dsimp only [sQ, tQ, bQ]) | (apply Wp.run; (dsimp only [List.map] <;> exact rfl); exact rfl) | (apply Wp.exit; dsimp only [sQ, tQ, bQ]; simp only [reduceIte]) | (apply Run.gtrue; (simp only [push_cast, seval, e0, hK1, hK, hy, hwl, e3, Bool.or_false, Bool.false_or, Bool.not_true] <;> (try simp (disch := omega) only [wI, wU, wC]) <;> exact rfl); (simp only [push_cast, seval, e0, hK1, hK, hy, hwl, e3, Bool.or_false, Bool.false_or, Bool.not_true] <;> (try simp (disch := omega) only [wI, wU, wC]) <;> exact rfl)) | (apply Run.gfalse (.bool false); (simp only [push_cast, seval, e0, hK1, hK, hy, hwl, e3, Bool.or_false, Bool.false_or, Bool.not_true] <;> (try simp (disch := omega) only [wI, wU, wC]) <;> exact rfl); dsimp only [S.put, optG]) | (apply Wp.condT; (simp only [push_cast, seval, e0, hK1, hK, hy, hwl, e3, Bool.or_false, Bool.false_or, Bool.not_true] <;> (try simp (disch := omega) only [wI, wU, wC]) <;> exact rfl)) | (apply Wp.condF; (simp only [push_cast, seval, e0, hK1, hK, hy, hwl, e3, Bool.or_false, Bool.false_or, Bool.not_true] <;> (try simp (disch := omega) only [wI, wU, wC]) <;> exact rfl)))
        refine Wp.loop (fun (i : Nat) => { t := [(1, .int k), (2, .optr 0 0 0 0), (7, .ints w), (8, .lst 2 (wn.map prA)), (10, .int (smL w i)), (11, .int i)], m := [⟨0, .row 2 [storA ks ls]⟩], n := 165 }) (fun i => i ≤ w.length) (fun i => w.length - i) 0 ?_ ?_ ?_
        · (refine Le.of ?_ ?_ rfl rfl <;> (try simp only [push_cast, seval, e0, hK1, hK, hy, hwl, e3, Bool.or_false, Bool.false_or, Bool.not_true]) <;> (try (with_reducible rfl)))
          all_goals rfl
        · simp
        · intro i hi1
          have hsi := hsb i hi1
          have hss : smL w (i + 1) = smL w i + w.getD i 0 := rfl
          generalize hsm : smL w i = sm at hsi hss
          repeat (first | apply Wp.seq | apply Wp.block | (apply Run.next; (simp only [push_cast, seval, e0, hK1, hK, hy, hwl, e3, Bool.or_false, Bool.false_or, Bool.not_true] <;> (try simp (disch := omega) only [wI, wU, wC]) <;> exact rfl); (focus ((try simp only [push_cast, seval, e0, hK1, hK, hy, hwl, e3, Bool.or_false, Bool.false_or, Bool.not_true]) <;> exact sT))) | ((first | apply Run.nil | apply Wp.skip); dsimp only [sQ, tQ, bQ]) | (apply Wp.run; (dsimp only [List.map] <;> exact rfl); exact rfl) | (apply Wp.exit; dsimp only [sQ, tQ, bQ]; simp only [reduceIte]))
          (apply Wp.cond; (simp only [push_cast, seval, e0, hK1, hK, hy, hwl, e3, Bool.or_false, Bool.false_or, Bool.not_true] <;> (try simp (disch := omega) only [wI, wU, wC]) <;> exact rfl))
          · intro hci
            simp only [decide_eq_true_eq, Int.ofNat_lt] at hci
            have hb1 := hwb i (by omega)
            have hw1 := hwi i (by omega)
            generalize hxi : w.getD i 0 = x at hb1 hw1 hss
            repeat (first | apply Wp.seq | apply Wp.block | (apply Run.next; (simp only [push_cast, seval, e0, hy, hxi] <;> (try simp (disch := omega) only [wI, wU, wC]) <;> exact rfl); (focus ((try simp only [push_cast, seval, e0, hy, hxi]) <;> exact sT))) | ((first | apply Run.nil | apply Wp.skip); dsimp only [sQ, tQ, bQ]) | (apply Wp.run; (dsimp only [List.map] <;> exact rfl); exact rfl) | (apply Wp.exit; dsimp only [sQ, tQ, bQ]; simp only [reduceIte]))
            refine Wp.loop (fun (m : Nat) => { t := [(1, .int k), (2, .optr 0 0 0 0), (7, .ints w), (8, .lst 2 (wn.map prA)), (10, .int (smL w (i + 1))), (11, .int i), (12, .bool (lsB wn k i m)), (13, .int m)], m := [⟨0, .row 2 [storA ks ls]⟩], n := 165 }) (fun m => m ≤ wn.length) (fun m => wn.length - m) 0 ?_ ?_ ?_
            · rw [hss]
              (refine Le.of ?_ ?_ rfl rfl <;> (try simp only [push_cast, seval, e0, hy, hxi]) <;> (try (with_reducible rfl)))
              rfl
            · simp
            · intro m hm1
              have hlm := lsB_succ wn (k : Int) (i : Int) (m := m)
              have hle : m = wn.length → lsB wn k i m = decide (x = y.life) := fun h => by rw [← hw1]; unfold lsB; rw [List.take_of_length_le (by omega)]
              generalize hlb : lsB wn k i m = b at hlm hle
              rw [hss]
              repeat (first | apply Wp.seq | apply Wp.block | (apply Run.next; (simp only [push_cast, seval, e0, hy, hxi] <;> (try simp (disch := omega) only [wI, wU, wC]) <;> exact rfl); (focus ((try simp only [push_cast, seval, e0, hy, hxi]) <;> exact sT))) | ((first | apply Run.nil | apply Wp.skip); dsimp only [sQ, tQ, bQ]) | (apply Wp.run; (dsimp only [List.map] <;> exact rfl); exact rfl) | (apply Wp.exit; dsimp only [sQ, tQ, bQ]; simp only [reduceIte]))
              (apply Wp.cond; (simp only [push_cast, seval, e0, hy, hxi] <;> (try simp (disch := omega) only [wI, wU, wC]) <;> exact rfl))
              · intro hcm
                simp only [decide_eq_true_eq, Int.ofNat_lt] at hcm
                have hlm1 := hlm hcm
                generalize hpm : wn.getD m (0, 0) = pm at hlm1
                repeat (first | apply Wp.seq | apply Wp.block | (apply Run.next; (simp only [push_cast, seval, e0, hy, hxi, getD_pr, hpm, prA] <;> (try simp (disch := omega) only [wI, wU, wC]) <;> exact rfl); (focus ((try simp only [push_cast, seval, e0, hy, hxi, getD_pr, hpm, prA]) <;> exact sT))) | ((first | apply Run.nil | apply Wp.skip); dsimp only [sQ, tQ, bQ]) | (apply Wp.run; (dsimp only [List.map] <;> exact rfl); exact rfl) | (apply Wp.exit; dsimp only [sQ, tQ, bQ]; simp only [reduceIte]))
                refine ⟨m + 1, ?_, by omega, by omega⟩
                rw [hlm1]
                (refine Le.of ?_ ?_ rfl rfl <;> (try simp only [push_cast, seval, e0, hy, hxi, getD_pr, hpm, prA]) <;> (try (with_reducible rfl)))
              · intro hcm
                simp only [decide_eq_false_iff_not, Int.ofNat_lt] at hcm
                have hb2 := hle (by omega)
                subst hb2
                have e1 : decide (x < 0) = false := decide_eq_false (by omega)
                have e2 : decide (y.life < x) = false := decide_eq_false (by omega)
                generalize hbx : decide (x = y.life) = b
                repeat (first | apply Wp.seq | apply Wp.block | (apply Run.next; (simp only [push_cast, seval, e0, hy, hxi, hbx, e1, e2, eq_self, Bool.or_false, Bool.false_or, Bool.not_true, bne_self_eq_false, decide_true] <;> (try simp (disch := omega) only [wI, wU, wC]) <;> exact rfl); (focus ((try simp only [push_cast, seval, e0, hy, hxi, hbx, e1, e2, eq_self, Bool.or_false, Bool.false_or, Bool.not_true, bne_self_eq_false, decide_true]) <;> exact sT))) | ((first | apply Run.nil | apply Wp.skip); dsimp only [sQ, tQ, bQ]) | (apply Wp.run; (dsimp only [List.map] <;> exact rfl); exact rfl) | (apply Wp.exit; dsimp only [sQ, tQ, bQ]; simp only [reduceIte]))
                (apply Wp.runD 33 mixed; (dsimp only [List.map] <;> exact rfl); exact rfl; kernel_rfl; (dsimp only [List.take] <;> exact rfl); (dsimp only [List.drop] <;> exact rfl); (((repeat (apply Abn.next; (simp only [push_cast, seval, e0, hy, hxi, hbx, e1, e2, eq_self, Bool.or_false, Bool.false_or, Bool.not_true, bne_self_eq_false, decide_true] <;> (try simp (disch := omega) only [wI, wU, wC]) <;> exact rfl); (focus ((try simp only [push_cast, seval, e0, hy, hxi, hbx, e1, e2, eq_self, Bool.or_false, Bool.false_or, Bool.not_true, bne_self_eq_false, decide_true]) <;> exact sT))))); exact Abn.nil))
                repeat (first | apply Wp.seq | apply Wp.block | (apply Run.next; (simp only [push_cast, seval, e0, hy, hxi, hbx, e1, e2, eq_self, Bool.or_false, Bool.false_or, Bool.not_true, bne_self_eq_false, decide_true] <;> (try simp (disch := omega) only [wI, wU, wC]) <;> exact rfl); (focus ((try simp only [push_cast, seval, e0, hy, hxi, hbx, e1, e2, eq_self, Bool.or_false, Bool.false_or, Bool.not_true, bne_self_eq_false, decide_true]) <;> exact sT))) | ((first | apply Run.nil | apply Wp.skip); dsimp only [sQ, tQ, bQ]) | (apply Wp.run; (dsimp only [List.map] <;> exact rfl); exact rfl) | (apply Wp.exit; dsimp only [sQ, tQ, bQ]; simp only [reduceIte]) | (apply Run.gtrue; (simp only [push_cast, seval, e0, hy, hxi, hbx, e1, e2, eq_self, Bool.or_false, Bool.false_or, Bool.not_true, bne_self_eq_false, decide_true] <;> (try simp (disch := omega) only [wI, wU, wC]) <;> exact rfl); (simp only [push_cast, seval, e0, hy, hxi, hbx, e1, e2, eq_self, Bool.or_false, Bool.false_or, Bool.not_true, bne_self_eq_false, decide_true] <;> (try simp (disch := omega) only [wI, wU, wC]) <;> exact rfl)) | (apply Run.gfalse (.bool false); (simp only [push_cast, seval, e0, hy, hxi, hbx, e1, e2, eq_self, Bool.or_false, Bool.false_or, Bool.not_true, bne_self_eq_false, decide_true] <;> (try simp (disch := omega) only [wI, wU, wC]) <;> exact rfl); dsimp only [S.put, optG]) | (apply Wp.condT; (simp only [push_cast, seval, e0, hy, hxi, hbx, e1, e2, eq_self, Bool.or_false, Bool.false_or, Bool.not_true, bne_self_eq_false, decide_true] <;> (try simp (disch := omega) only [wI, wU, wC]) <;> exact rfl)) | (apply Wp.condF; (simp only [push_cast, seval, e0, hy, hxi, hbx, e1, e2, eq_self, Bool.or_false, Bool.false_or, Bool.not_true, bne_self_eq_false, decide_true] <;> (try simp (disch := omega) only [wI, wU, wC]) <;> exact rfl)))
                refine ⟨i + 1, ?_, by omega, by omega⟩
                rw [hss]
                (refine Le.of ?_ ?_ rfl rfl <;> (try simp only [push_cast, seval, e0, hy, hxi, hbx, e1, e2, eq_self, Bool.or_false, Bool.false_or, Bool.not_true, bne_self_eq_false, decide_true]) <;> (try (with_reducible rfl)))
          · intro hci
            simp only [decide_eq_false_iff_not, Int.ofNat_lt] at hci
            have hie : y.items.toNat = i := by omega
            rw [hie, hsm] at hws
            repeat (first | apply Wp.seq | apply Wp.block | (apply Run.next; (simp only [push_cast, seval, e0, hy] <;> (try simp (disch := omega) only [wI, wU, wC]) <;> exact rfl); (focus ((try simp only [push_cast, seval, e0, hy]) <;> exact sT))) | ((first | apply Run.nil | apply Wp.skip); dsimp only [sQ, tQ, bQ]) | (apply Wp.run; (dsimp only [List.map] <;> exact rfl); exact rfl) | (apply Wp.exit; dsimp only [sQ, tQ, bQ]; simp only [reduceIte]))
            refine Wp.loop (fun (m : Nat) => { t := [(1, .int k), (2, .optr 0 0 0 0), (10, .int (sm - usP ls (k : Int) m)), (14, .int m)], m := [⟨0, .row 2 [storA ks ls]⟩], n := 165 }) (fun m => m ≤ ls.length) (fun m => ls.length - m) 0 ?_ ?_ ?_
            · (refine Le.of ?_ ?_ rfl rfl <;> (try simp only [push_cast, seval, e0, hy]) <;> (try (with_reducible rfl)))
              all_goals simp [usP]
            · simp
            · intro m hm1
              have hum := hub m hm1
              have hus : usP ls (k : Int) (m + 1) = if (ls.getD m ln0).kind = (k : Int) then usP ls (k : Int) m + (ls.getD m ln0).uses else usP ls (k : Int) m := rfl
              have hue : m = ls.length → usP ls (k : Int) m = usP ls (k : Int) ls.length := fun h => by rw [h]
              generalize hup : usP ls (k : Int) m = u at hum hus hue
              repeat (first | apply Wp.seq | apply Wp.block | (apply Run.next; (simp only [push_cast, seval, e0, hy] <;> (try simp (disch := omega) only [wI, wU, wC]) <;> exact rfl); (focus ((try simp only [push_cast, seval, e0, hy]) <;> exact sT))) | ((first | apply Run.nil | apply Wp.skip); dsimp only [sQ, tQ, bQ]) | (apply Wp.run; (dsimp only [List.map] <;> exact rfl); exact rfl) | (apply Wp.exit; dsimp only [sQ, tQ, bQ]; simp only [reduceIte]))
              (apply Wp.cond; (simp only [push_cast, seval, e0, hy] <;> (try simp (disch := omega) only [wI, wU, wC]) <;> exact rfl))
              · intro hcm
                simp only [decide_eq_true_eq, Int.ofNat_lt] at hcm
                have hlm := hv.ln m hcm
                generalize hzm : ls.getD m ln0 = z at hlm hus
                repeat (first | apply Wp.seq | apply Wp.block | (apply Run.next; (simp only [push_cast, seval, e0, hy, hzm] <;> (try simp (disch := omega) only [wI, wU, wC]) <;> exact rfl); (focus ((try simp only [push_cast, seval, e0, hy, hzm]) <;> exact sT))) | ((first | apply Run.nil | apply Wp.skip); dsimp only [sQ, tQ, bQ]) | (apply Wp.run; (dsimp only [List.map] <;> exact rfl); exact rfl) | (apply Wp.exit; dsimp only [sQ, tQ, bQ]; simp only [reduceIte]))
                (apply Wp.cond; (simp only [push_cast, seval, e0, hy, hzm] <;> (try simp (disch := omega) only [wI, wU, wC]) <;> exact rfl))
                · intro h2
                  simp only [decide_eq_true_eq] at h2
                  rw [if_pos h2] at hus
                  repeat (first | apply Wp.seq | apply Wp.block | (apply Run.next; (simp only [push_cast, seval, e0, hy, hzm] <;> (try simp (disch := omega) only [wI, wU, wC]) <;> exact rfl); (focus ((try simp only [push_cast, seval, e0, hy, hzm]) <;> exact sT))) | ((first | apply Run.nil | apply Wp.skip); dsimp only [sQ, tQ, bQ]) | (apply Wp.run; (dsimp only [List.map] <;> exact rfl); exact rfl) | (apply Wp.exit; dsimp only [sQ, tQ, bQ]; simp only [reduceIte]))
                  refine ⟨m + 1, ?_, by omega, by omega⟩
                  rw [hus, show sm - (u + z.uses) = sm - u - z.uses by omega]
                  (refine Le.of ?_ ?_ rfl rfl <;> (try simp only [push_cast, seval, e0, hy, hzm]) <;> (try (with_reducible rfl)))
                · intro h2
                  simp only [decide_eq_false_iff_not] at h2
                  rw [if_neg h2] at hus
                  repeat (first | apply Wp.seq | apply Wp.block | (apply Run.next; (simp only [push_cast, seval, e0, hy, hzm] <;> (try simp (disch := omega) only [wI, wU, wC]) <;> exact rfl); (focus ((try simp only [push_cast, seval, e0, hy, hzm]) <;> exact sT))) | ((first | apply Run.nil | apply Wp.skip); dsimp only [sQ, tQ, bQ]) | (apply Wp.run; (dsimp only [List.map] <;> exact rfl); exact rfl) | (apply Wp.exit; dsimp only [sQ, tQ, bQ]; simp only [reduceIte]))
                  refine ⟨m + 1, ?_, by omega, by omega⟩
                  rw [hus]
                  (refine Le.of ?_ ?_ rfl rfl <;> (try simp only [push_cast, seval, e0, hy, hzm]) <;> (try (with_reducible rfl)))
              · intro hcm
                simp only [decide_eq_false_iff_not, Int.ofNat_lt] at hcm
                have hfin := hue (by omega)
                have e4 : decide (sm - u = 0) = true := decide_eq_true (by omega)
                repeat (first | apply Wp.seq | apply Wp.block | (apply Run.next; (simp only [push_cast, seval, e0, hy, e4] <;> (try simp (disch := omega) only [wI, wU, wC]) <;> exact rfl); (focus ((try simp only [push_cast, seval, e0, hy, e4]) <;> exact sT))) | ((first | apply Run.nil | apply Wp.skip); dsimp only [sQ, tQ, bQ]) | (apply Wp.run; (dsimp only [List.map] <;> exact rfl); exact rfl) | (apply Wp.exit; dsimp only [sQ, tQ, bQ]; simp only [reduceIte]) | (apply Run.gtrue; (simp only [push_cast, seval, e0, hy, e4] <;> (try simp (disch := omega) only [wI, wU, wC]) <;> exact rfl); (simp only [push_cast, seval, e0, hy, e4] <;> (try simp (disch := omega) only [wI, wU, wC]) <;> exact rfl)) | (apply Run.gfalse (.bool false); (simp only [push_cast, seval, e0, hy, e4] <;> (try simp (disch := omega) only [wI, wU, wC]) <;> exact rfl); dsimp only [S.put, optG]) | (apply Wp.condT; (simp only [push_cast, seval, e0, hy, e4] <;> (try simp (disch := omega) only [wI, wU, wC]) <;> exact rfl)) | (apply Wp.condF; (simp only [push_cast, seval, e0, hy, e4] <;> (try simp (disch := omega) only [wI, wU, wC]) <;> exact rfl)))
                (apply Run.pureP; (simp only [push_cast, seval, e0, hy, e4] <;> (try simp (disch := omega) only [wI, wU, wC]) <;> exact rfl); (exact (Enters.of Try.func16 rfl rfl)); (exact hw); (focus (simp only [push_cast, seval, e0, hy, e4] <;> first | trivial | assumption | (refine ⟨?_, ?_⟩ <;> assumption) | (simp; done))); (try dsimp only [putA, optG]))
                repeat (first | apply Wp.seq | apply Wp.block | (apply Run.next; (simp only [push_cast, seval, e0, hy, e4] <;> (try simp (disch := omega) only [wI, wU, wC]) <;> exact rfl); (focus ((try simp only [push_cast, seval, e0, hy, e4]) <;> exact sT))) | ((first | apply Run.nil | apply Wp.skip); dsimp only [sQ, tQ, bQ]) | (apply Wp.run; (dsimp only [List.map] <;> exact rfl); exact rfl) | (apply Wp.exit; dsimp only [sQ, tQ, bQ]; simp only [reduceIte]) | (apply Run.gtrue; (simp only [push_cast, seval, e0, hy, e4] <;> (try simp (disch := omega) only [wI, wU, wC]) <;> exact rfl); (simp only [push_cast, seval, e0, hy, e4] <;> (try simp (disch := omega) only [wI, wU, wC]) <;> exact rfl)) | (apply Run.gfalse (.bool false); (simp only [push_cast, seval, e0, hy, e4] <;> (try simp (disch := omega) only [wI, wU, wC]) <;> exact rfl); dsimp only [S.put, optG]) | (apply Wp.condT; (simp only [push_cast, seval, e0, hy, e4] <;> (try simp (disch := omega) only [wI, wU, wC]) <;> exact rfl)) | (apply Wp.condF; (simp only [push_cast, seval, e0, hy, e4] <;> (try simp (disch := omega) only [wI, wU, wC]) <;> exact rfl)))
                (apply Wp.ret; (try dsimp only [sQ, tQ, bQ]); apply leave0; exact rfl; (simp only [push_cast, seval, e0, hy, e4] <;> (try simp (disch := omega) only [wI, wU, wC]) <;> exact rfl); all_goals (try simp only [push_cast, seval, e0, hy, e4]); (try rfl))
      · have hE' : decide (plnE ks ls = 0) = false := decide_eq_false hE
        have hpv : (∃ s, plnA ks ls = .ints s) ∨ plnA ks ls = .emp := by
          unfold plnA; split
          · exact .inl ⟨_, rfl⟩
          · exact .inr rfl
        generalize plnA ks ls = x at c1 hpv
        generalize plnE ks ls = e at c1 hE'
        rcases hpv with ⟨s, rfl⟩ | rfl
        all_goals
          (refine Spec.of_body Try.func8 rfl (by rw [Try.ntmps8]; simp) 0 (by simp) ?_; rw [Try.results8, Try.ntmps8]; simp only [entry, zipArgs, Nat.reduceAdd])
          repeat (first | apply Wp.seq | apply Wp.block | (apply Run.next; (simp only [push_cast, seval, e0, hE'] <;> (try simp (disch := omega) only [wI, wU, wC]) <;> exact rfl); (focus ((try simp only [push_cast, seval, e0, hE']) <;> exact sT))) | ((first | apply Run.nil | apply Wp.skip); dsimp only [sQ, tQ, bQ]) | (apply Wp.run; (dsimp only [List.map] <;> exact rfl); exact rfl) | (apply Wp.exit; dsimp only [sQ, tQ, bQ]; simp only [reduceIte]))
          (apply Run.pureP; (simp only [push_cast, seval, e0, hE'] <;> (try simp (disch := omega) only [wI, wU, wC]) <;> exact rfl); (exact (Enters.of Try.func15 rfl rfl)); (exact hg); (focus (simp only [push_cast, seval, e0, hE'] <;> first | trivial | assumption | (refine ⟨?_, ?_⟩ <;> assumption) | (simp; done))); (try dsimp only [putA, optG]))
          repeat (first | apply Wp.seq | apply Wp.block | (apply Run.next; (simp only [push_cast, seval, e0, hE'] <;> (try simp (disch := omega) only [wI, wU, wC]) <;> exact rfl); (focus ((try simp only [push_cast, seval, e0, hE']) <;> exact sT))) | ((first | apply Run.nil | apply Wp.skip); dsimp only [sQ, tQ, bQ]) | (apply Wp.run; (dsimp only [List.map] <;> exact rfl); exact rfl) | (apply Wp.exit; dsimp only [sQ, tQ, bQ]; simp only [reduceIte]) | (apply Run.gtrue; (simp only [push_cast, seval, e0, hE'] <;> (try simp (disch := omega) only [wI, wU, wC]) <;> exact rfl); (simp only [push_cast, seval, e0, hE'] <;> (try simp (disch := omega) only [wI, wU, wC]) <;> exact rfl)) | (apply Run.gfalse (.bool false); (simp only [push_cast, seval, e0, hE'] <;> (try simp (disch := omega) only [wI, wU, wC]) <;> exact rfl); dsimp only [S.put, optG]) | (apply Wp.condT; (simp only [push_cast, seval, e0, hE'] <;> (try simp (disch := omega) only [wI, wU, wC]) <;> exact rfl)) | (apply Wp.condF; (simp only [push_cast, seval, e0, hE'] <;> (try simp (disch := omega) only [wI, wU, wC]) <;> exact rfl)))
          (apply Run.pureFP; (simp only [push_cast, seval, e0, hE'] <;> (try simp (disch := omega) only [wI, wU, wC]) <;> exact rfl); (exact (Enters.of Try.func25 rfl rfl)); (exact c1); (focus (simp only [push_cast, seval, e0, hE'] <;> first | trivial | assumption | (refine ⟨?_, ?_⟩ <;> assumption) | (simp; done))); (try dsimp only [putA, optG]))
          repeat (first | apply Wp.seq | apply Wp.block | (apply Run.next; (simp only [push_cast, seval, e0, hE'] <;> (try simp (disch := omega) only [wI, wU, wC]) <;> exact rfl); (focus ((try simp only [push_cast, seval, e0, hE']) <;> exact sT))) | ((first | apply Run.nil | apply Wp.skip); dsimp only [sQ, tQ, bQ]) | (apply Wp.run; (dsimp only [List.map] <;> exact rfl); exact rfl) | (apply Wp.exit; dsimp only [sQ, tQ, bQ]; simp only [reduceIte]) | (apply Run.gtrue; (simp only [push_cast, seval, e0, hE'] <;> (try simp (disch := omega) only [wI, wU, wC]) <;> exact rfl); (simp only [push_cast, seval, e0, hE'] <;> (try simp (disch := omega) only [wI, wU, wC]) <;> exact rfl)) | (apply Run.gfalse (.bool false); (simp only [push_cast, seval, e0, hE'] <;> (try simp (disch := omega) only [wI, wU, wC]) <;> exact rfl); dsimp only [S.put, optG]) | (apply Wp.condT; (simp only [push_cast, seval, e0, hE'] <;> (try simp (disch := omega) only [wI, wU, wC]) <;> exact rfl)) | (apply Wp.condF; (simp only [push_cast, seval, e0, hE'] <;> (try simp (disch := omega) only [wI, wU, wC]) <;> exact rfl)))
          (apply Run.pureP; (simp only [push_cast, seval, e0, hE'] <;> (try simp (disch := omega) only [wI, wU, wC]) <;> exact rfl); (exact (Enters.of Try.func16 rfl rfl)); (exact hw); (focus (simp only [push_cast, seval, e0, hE'] <;> first | trivial | assumption | (refine ⟨?_, ?_⟩ <;> assumption) | (simp; done))); (try dsimp only [putA, optG]))
          repeat (first | apply Wp.seq | apply Wp.block | (apply Run.next; (simp only [push_cast, seval, e0, hE'] <;> (try simp (disch := omega) only [wI, wU, wC]) <;> exact rfl); (focus ((try simp only [push_cast, seval, e0, hE']) <;> exact sT))) | ((first | apply Run.nil | apply Wp.skip); dsimp only [sQ, tQ, bQ]) | (apply Wp.run; (dsimp only [List.map] <;> exact rfl); exact rfl) | (apply Wp.exit; dsimp only [sQ, tQ, bQ]; simp only [reduceIte]) | (apply Run.gtrue; (simp only [push_cast, seval, e0, hE'] <;> (try simp (disch := omega) only [wI, wU, wC]) <;> exact rfl); (simp only [push_cast, seval, e0, hE'] <;> (try simp (disch := omega) only [wI, wU, wC]) <;> exact rfl)) | (apply Run.gfalse (.bool false); (simp only [push_cast, seval, e0, hE'] <;> (try simp (disch := omega) only [wI, wU, wC]) <;> exact rfl); dsimp only [S.put, optG]) | (apply Wp.condT; (simp only [push_cast, seval, e0, hE'] <;> (try simp (disch := omega) only [wI, wU, wC]) <;> exact rfl)) | (apply Wp.condF; (simp only [push_cast, seval, e0, hE'] <;> (try simp (disch := omega) only [wI, wU, wC]) <;> exact rfl)))
          (apply Wp.ret; (try dsimp only [sQ, tQ, bQ]); apply leave0; exact rfl; (simp only [push_cast, seval, e0, hE'] <;> (try simp (disch := omega) only [wI, wU, wC]) <;> exact rfl); all_goals (try simp only [push_cast, seval, e0, hE']); (try rfl))
end Go.Proofs.Try
