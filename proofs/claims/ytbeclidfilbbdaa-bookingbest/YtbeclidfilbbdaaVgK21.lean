/- A part of the proof of BookingBest: contracts of functions, with plain laws that they need. -/
import Derived.Test.YtbeclidfilbbdaaVgVz
import Derived.Test.YtbeclidfilbbdaaVgK4J
set_option linter.all false
set_option maxHeartbeats 8000000
set_option maxRecDepth 20000
namespace Go.Proofs.Try
open Go.Vg

/-! a rota is made -/
theorem namedR : Named Try.prog 125 := namedB_ok (by kernel_rfl)
theorem rep0_spec (n : Nat) (h : n ≤ 20) : Go.Vg.Spec Try.prog 88 [.lst 1 [.int (-1)], .int (n : Int)] [] (fun y m' => y = .osl 0 0 0 n ∧ m' = [⟨0, .row 1 (List.replicate n (.int (-1)))⟩]) := by
  match n, h with
  | 0, _ => exact xF_spec (n := 3000) namedR mixed (by kernel_rfl)
  | 1, _ => exact xF_spec (n := 3000) namedR mixed (by kernel_rfl)
  | 2, _ => exact xF_spec (n := 3000) namedR mixed (by kernel_rfl)
  | 3, _ => exact xF_spec (n := 3000) namedR mixed (by kernel_rfl)
  | 4, _ => exact xF_spec (n := 3000) namedR mixed (by kernel_rfl)
  | 5, _ => exact xF_spec (n := 3000) namedR mixed (by kernel_rfl)
  | 6, _ => exact xF_spec (n := 3000) namedR mixed (by kernel_rfl)
  | 7, _ => exact xF_spec (n := 3000) namedR mixed (by kernel_rfl)
  | 8, _ => exact xF_spec (n := 3000) namedR mixed (by kernel_rfl)
  | 9, _ => exact xF_spec (n := 3000) namedR mixed (by kernel_rfl)
  | 10, _ => exact xF_spec (n := 3000) namedR mixed (by kernel_rfl)
  | 11, _ => exact xF_spec (n := 3000) namedR mixed (by kernel_rfl)
  | 12, _ => exact xF_spec (n := 3000) namedR mixed (by kernel_rfl)
  | 13, _ => exact xF_spec (n := 3000) namedR mixed (by kernel_rfl)
  | 14, _ => exact xF_spec (n := 3000) namedR mixed (by kernel_rfl)
  | 15, _ => exact xF_spec (n := 3000) namedR mixed (by kernel_rfl)
  | 16, _ => exact xF_spec (n := 3000) namedR mixed (by kernel_rfl)
  | 17, _ => exact xF_spec (n := 3000) namedR mixed (by kernel_rfl)
  | 18, _ => exact xF_spec (n := 3000) namedR mixed (by kernel_rfl)
  | 19, _ => exact xF_spec (n := 3000) namedR mixed (by kernel_rfl)
  | 20, _ => exact xF_spec (n := 3000) namedR mixed (by kernel_rfl)
  | n + 21, h => omega
theorem shR1 (k n : Nat) : shiftL k (List.replicate n (AV.int (-1))) = List.replicate n (AV.int (-1)) := by
  induction n with
  | zero => rfl
  | succ n ih => rw [List.replicate_succ]; simp only [shiftL, ih]; rfl
theorem rep_spec (n : Nat) (h : n ≤ 20) (m : Mem) : Go.Vg.Spec Try.prog 88 [.lst 1 [.int (-1)], .int (n : Int)] m (fun y m' => y = .osl m.length 0 0 n ∧ m' = m ++ [⟨0, .row 1 ((List.replicate n (-1)).map AV.int)⟩]) := by
  refine (Spec.frame (rep0_spec n h) (by simp [AV.ok, okL])).mono ?_
  rintro _ _ ⟨_, _, ⟨rfl, rfl⟩, rfl, rfl⟩
  refine ⟨by simp [AV.shift], ?_⟩
  simp [Kind.shift, shR1]
abbrev rotA (cs : List Ch) (ms : List Ma) (cake : Int) (ls : List Bk) (x4 x5 x6 : AV) : AV := .agg [.lst 4 (cs.map chA), .lst 3 (ms.map maA), .int cake, .lst 6 (ls.map bkA), x4, x5, x6]
def stK (ls : List Bk) (a : Int) : Int := (ls.getD a.toNat bk0).st
theorem newRota1_pure {ls : List Bk} (hst : ∀ i, i < ls.length → 0 ≤ (ls.getD i bk0).st ∧ (ls.getD i bk0).st ≤ 1440) (a b : Int) (ha : 0 ≤ a ∧ a < ls.length) (hb : 0 ≤ b ∧ b < ls.length) :
    Pure Try.prog 90 [.int a, .int b, .ref [.lst 6 (ls.map bkA)] 0] (.int (stK ls a - stK ls b)) := by
  have h1 := hst a.toNat (by omega)
  have h2 := hst b.toNat (by omega)
  unfold stK
  generalize hx : ls.getD a.toNat bk0 = x at h1
  generalize hy : ls.getD b.toNat bk0 = y at h2
  (refine Spec.of_body Try.func90 rfl (by rw [Try.ntmps90]; simp) 0 (by simp) ?_; rw [Try.results90, Try.ntmps90]; simp only [entry, zipArgs, Nat.reduceAdd])
  repeat (first | apply Wp.seq | apply Wp.block | (apply Run.next; (simp only [push_cast, seval, hx, hy] <;> (try simp (disch := omega) only [wI, wU, wC]) <;> exact rfl); (focus ((try simp only [push_cast, seval, hx, hy]) <;> exact sT))) | ((first | apply Run.nil | apply Wp.skip); dsimp only [sQ, tQ, bQ]) | (apply Wp.run; (dsimp only [List.map] <;> exact rfl); exact rfl) | (apply Wp.exit; dsimp only [sQ, tQ, bQ]; simp only [reduceIte]))
  (apply Wp.runD 12 mixed; (dsimp only [List.map] <;> exact rfl); exact rfl; kernel_rfl; (dsimp only [List.take] <;> exact rfl); (dsimp only [List.drop] <;> exact rfl); (((repeat (apply Abn.next; (simp only [push_cast, seval, hx, hy] <;> (try simp (disch := omega) only [wI, wU, wC]) <;> exact rfl); (focus ((try simp only [push_cast, seval, hx, hy]) <;> exact sT))))); exact Abn.nil))
  repeat (first | apply Wp.seq | apply Wp.block | (apply Run.next; (simp only [push_cast, seval, hx, hy] <;> (try simp (disch := omega) only [wI, wU, wC]) <;> exact rfl); (focus ((try simp only [push_cast, seval, hx, hy]) <;> exact sT))) | ((first | apply Run.nil | apply Wp.skip); dsimp only [sQ, tQ, bQ]) | (apply Wp.run; (dsimp only [List.map] <;> exact rfl); exact rfl) | (apply Wp.exit; dsimp only [sQ, tQ, bQ]; simp only [reduceIte]))
  (apply Wp.ret; (try dsimp only [sQ, tQ, bQ]); apply leave0; exact rfl; (simp only [push_cast, seval, hx, hy] <;> (try simp (disch := omega) only [wI, wU, wC]) <;> exact rfl); all_goals (try simp only [push_cast, seval, hx, hy]); (try rfl))
def cL (o : List Nat) : List Int := o.map fun i : Nat => (i : Int)
theorem cL_succ (k : Nat) : cL (List.range (k + 1)) = cL (List.range k) ++ [(k : Int)] := by simp [cL, List.range_succ]
theorem cL_len (o : List Nat) : (cL o).length = o.length := by simp [cL]
theorem cL_back {L : List Int} {n : Nat} (h : L.Perm (cL (List.range n))) : ∃ o : List Nat, o.Perm (List.range n) ∧ L = cL o := by
  refine ⟨L.map Int.toNat, ?_, ?_⟩
  · have := h.map Int.toNat
    unfold cL at this
    rw [List.map_map] at this
    have e : (Int.toNat ∘ fun i : Nat => (i : Int)) = id := by funext i; simp
    rwa [e, List.map_id] at this
  · unfold cL
    rw [List.map_map]
    have : ∀ x ∈ L, ((fun i : Nat => (i : Int)) ∘ Int.toNat) x = x := by
      intro x hx
      have h2 := h.mem_iff.1 hx
      unfold cL at h2
      obtain ⟨i, _, rfl⟩ := List.mem_map.1 h2
      simp
    rw [List.map_congr_left this, List.map_id']
structure OV (ls : List Bk) (o : List Nat) : Prop where
  perm : o.Perm (List.range ls.length)
  sort : o.Pairwise fun a b => (ls.getD a bk0).st ≤ (ls.getD b bk0).st
theorem newRota_spec {cs : List Ch} {ms : List Ma} {cake : Int} {ls : List Bk} (h20 : ls.length ≤ 20) (hst : ∀ i, i < ls.length → 0 ≤ (ls.getD i bk0).st ∧ (ls.getD i bk0).st ≤ 1440) :
    Go.Vg.Spec Try.prog 59 [houA cs ms cake, .lst 6 (ls.map bkA)] [] (fun y m' => y = .optr 3 0 0 0 ∧ ∃ o, OV ls o ∧ m' = [⟨0, .row 3 [houA cs ms cake]⟩, ⟨0, .row 1 [.lst 6 (ls.map bkA)]⟩, ⟨0, .row 1 ((List.replicate ls.length (-1)).map AV.int)⟩, ⟨0, .row 7 [rotA cs ms cake ls (.osl 4 ls.length 0 ls.length) (.osl 2 0 0 ls.length) .emp]⟩, ⟨ls.length, .row 1 ((cL o).map AV.int)⟩]) := by
  have hrep := rep_spec ls.length h20 [⟨0, .row 3 [houA cs ms cake]⟩, ⟨0, .row 1 [.lst 6 (ls.map bkA)]⟩]
  (refine Spec.of_bodyA Try.func59 rfl (by rw [Try.ntmps59]; simp) ?_; rw [Try.results59, Try.ntmps59]; simp only [entry, zipArgs, Nat.reduceAdd])
  repeat (first | apply Wp.seq | apply Wp.block | (apply Run.next; (simp only [push_cast, seval] <;> (try simp (disch := omega) only [wI, wU, wC]) <;> exact rfl); (focus ((try simp only [push_cast, seval]) <;> exact sT))) | ((first | apply Run.nil | apply Wp.skip); dsimp only [sQ, tQ, bQ]) | (apply Wp.run; (dsimp only [List.map] <;> exact rfl); exact rfl) | (apply Wp.exit; dsimp only [sQ, tQ, bQ]; simp only [reduceIte]))
  (apply Wp.runW 5 7 (fun m0 => m0 ++ [⟨0, .row 1 ((List.replicate ls.length (-1)).map AV.int)⟩]) mixed; (dsimp only [List.map] <;> exact rfl); exact rfl; kernel_rfl; kernel_rfl; (dsimp only; ((repeat (first | (apply AbW.bld; exact rfl; kernel_rfl; (simp only [push_cast, seval] <;> (try simp (disch := omega) only [wI, wU, wC]) <;> exact rfl); (focus ((try simp only [push_cast, seval]) <;> exact sT)); dsimp only [upd]) | (apply AbW.both; exact rfl; kernel_rfl; (simp only [push_cast, seval] <;> (try simp (disch := omega) only [wI, wU, wC]) <;> exact rfl); (focus ((try simp only [push_cast, seval]) <;> exact sT)); (simp only [push_cast, seval] <;> (try simp (disch := omega) only [wI, wU, wC]) <;> exact rfl); (focus ((try simp only [push_cast, seval]) <;> exact sT)); dsimp only [upd]))); (apply AbW.at1 (x := .osl 2 0 0 ls.length); exact rfl; exact rfl; (refine Spec.stepAt (caps := []) (Enters.of Try.func88 rfl rfl) ?_ ?_; (simp only [push_cast, seval] <;> (try simp (disch := omega) only [wI, wU, wC]) <;> exact rfl); (simp only [push_cast, seval]; exact hrep)); dsimp only [upd]); (repeat (apply AbW.both; exact rfl; kernel_rfl; (simp only [push_cast, seval] <;> (try simp (disch := omega) only [wI, wU, wC]) <;> exact rfl); (focus ((try simp only [push_cast, seval]) <;> exact sT)); (simp only [push_cast, seval] <;> (try simp (disch := omega) only [wI, wU, wC]) <;> exact rfl); (focus ((try simp only [push_cast, seval]) <;> exact sT)); dsimp only [upd])); (apply AbW.eff2; exact rfl; exact rfl; (simp only [push_cast, seval] <;> (try simp (disch := omega) only [wI, wU, wC]) <;> exact rfl); (focus ((try simp only [push_cast, seval]) <;> exact sT)); (try dsimp only [upd])); (repeat (apply AbW.late; exact rfl; kernel_rfl; ((try dsimp only [List.cons_append, List.nil_append]); (simp only [push_cast, seval] <;> (try simp (disch := omega) only [wI, wU, wC]) <;> exact rfl)); (focus ((try simp only [push_cast, seval]) <;> exact sT)); dsimp only [upd]))); exact AbW.nil))
  repeat (first | apply Wp.seq | apply Wp.block | (apply Run.next; (simp only [push_cast, seval] <;> (try simp (disch := omega) only [wI, wU, wC]) <;> exact rfl); (focus ((try simp only [push_cast, seval]) <;> exact sT))) | ((first | apply Run.nil | apply Wp.skip); dsimp only [sQ, tQ, bQ]) | (apply Wp.run; (dsimp only [List.map] <;> exact rfl); exact rfl) | (apply Wp.exit; dsimp only [sQ, tQ, bQ]; simp only [reduceIte]))
  refine Wp.adoptRow 3 1 (l' := [rotA cs ms cake ls (.osl 4 0 0 0) (.osl 2 0 0 ls.length) .emp]) rfl ⟨.inr ⟨_, _, rfl, rfl, .inl (.inl rfl), .inl (.inl rfl), .inl (.inl rfl), .inl (.inl rfl), .inl (.inr ⟨rfl, 4, by simp, by simp, rfl⟩), .inl (.inl rfl), .inl (.inl rfl), trivial⟩, trivial⟩ ?_
  simp only [List.set_cons_succ, List.set_cons_zero, List.replicate_succ, List.replicate_zero, List.cons_append, List.nil_append]
  refine Wp.loop (fun (k : Nat) => { t := [(2, .optr 0 0 0 0), (3, .optr 1 0 0 0), (5, .optr 3 0 0 0), (16, .int ls.length), (17, .int k)], m := [⟨0, .row 3 [houA cs ms cake]⟩, ⟨0, .row 1 [.lst 6 (ls.map bkA)]⟩, ⟨0, .row 1 ((List.replicate ls.length (-1)).map AV.int)⟩, ⟨0, .row 7 [rotA cs ms cake ls (.osl 4 k 0 k) (.osl 2 0 0 ls.length) .emp]⟩, ⟨k, .row 1 ((cL (List.range k)).map AV.int)⟩], n := 38 }) (fun k => k ≤ ls.length) (fun k => ls.length - k) 0 ?_ ?_ ?_
  · (refine Le.of ?_ ?_ rfl rfl <;> (try simp only [push_cast, seval]) <;> (try (with_reducible rfl)))
    all_goals rfl
  · simp
  · intro k hk
    have hcl := cL_len (List.range k)
    have hcs := cL_succ k
    rw [List.length_range] at hcl
    generalize hC : cL (List.range k) = C at hcl hcs
    have htk : C.take k = C := List.take_of_length_le (by omega)
    repeat (first | apply Wp.seq | apply Wp.block | (apply Run.next; (simp only [push_cast, seval, htk, hcl] <;> (try simp (disch := omega) only [wI, wU, wC]) <;> exact rfl); (focus ((try simp only [push_cast, seval, htk, hcl]) <;> exact sT))) | ((first | apply Run.nil | apply Wp.skip); dsimp only [sQ, tQ, bQ]) | (apply Wp.run; (dsimp only [List.map] <;> exact rfl); exact rfl) | (apply Wp.exit; dsimp only [sQ, tQ, bQ]; simp only [reduceIte]))
    (apply Wp.cond; (simp only [push_cast, seval, htk, hcl] <;> (try simp (disch := omega) only [wI, wU, wC]) <;> exact rfl))
    · intro hc
      simp only [decide_eq_true_eq, Int.ofNat_lt] at hc
      repeat (first | apply Wp.seq | apply Wp.block | (apply Run.next; (simp only [push_cast, seval, htk, hcl] <;> (try simp (disch := omega) only [wI, wU, wC]) <;> exact rfl); (focus ((try simp only [push_cast, seval, htk, hcl]) <;> exact sT))) | ((first | apply Run.nil | apply Wp.skip); dsimp only [sQ, tQ, bQ]) | (apply Wp.run; (dsimp only [List.map] <;> exact rfl); exact rfl) | (apply Wp.exit; dsimp only [sQ, tQ, bQ]; simp only [reduceIte]))
      refine ⟨k + 1, ?_, by omega, by omega⟩
      rw [hcs]
      (refine Le.of ?_ ?_ rfl rfl <;> (try simp only [push_cast, seval, htk, hcl]) <;> (try (with_reducible rfl)))
    · intro hc
      simp only [decide_eq_false_iff_not, Int.ofNat_lt] at hc
      obtain rfl : k = ls.length := by omega
      have hmem : ∀ a ∈ C, 0 ≤ a ∧ a < (ls.length : Int) := by
        intro a ha
        rw [← hC] at ha
        unfold cL at ha
        obtain ⟨i, hi, rfl⟩ := List.mem_map.1 ha
        have := List.mem_range.1 hi
        omega
      have hso := stable_spec (m := [⟨0, .row 3 [houA cs ms cake]⟩, ⟨0, .row 1 [.lst 6 (ls.map bkA)]⟩, ⟨0, .row 1 ((List.replicate ls.length (-1)).map AV.int)⟩, ⟨0, .row 7 [rotA cs ms cake ls (.osl 4 ls.length 0 ls.length) (.osl 2 0 0 ls.length) .emp]⟩, ⟨ls.length, .row 1 (C.map AV.int)⟩]) (e := 4) (ver := ls.length) (g := 90) (caps := [.optr 1 0 0 0]) (caps' := [.ref [.lst 6 (ls.map bkA)] 0]) (ky := stK ls) (Enters.of Try.func90 rfl rfl) C (by simp)
        (fun x => VwL.cons (Vw.optr (sz := 1) rfl rfl (by simp [AV.cells]) (VwL.cons (Vw.self (by simp [AV.ok, okL_bk])) VwL.nil)) VwL.nil) (by simp [AV.ok, okL, okL_bk]) (fun a ha b hb => newRota1_pure hst a b (hmem a ha) (hmem b hb)) (by omega)
      rw [hcl] at hso
      simp only [List.set_cons_succ, List.set_cons_zero] at hso
      repeat (first | apply Wp.seq | apply Wp.block | (apply Run.next; (simp only [push_cast, seval, htk, hcl] <;> (try simp (disch := omega) only [wI, wU, wC]) <;> exact rfl); (focus ((try simp only [push_cast, seval, htk, hcl]) <;> exact sT))) | ((first | apply Run.nil | apply Wp.skip); dsimp only [sQ, tQ, bQ]) | (apply Wp.run; (dsimp only [List.map] <;> exact rfl); exact rfl) | (apply Wp.exit; dsimp only [sQ, tQ, bQ]; simp only [reduceIte]))
      apply Run.spec (he := Enters.of Try.func89 rfl rfl) (hc := hso)
      · exact rfl
      · exact rfl
      · (simp only [push_cast, seval, htk, hcl] <;> (try simp (disch := omega) only [wI, wU, wC]) <;> exact rfl)
      · rintro _ _ ⟨L, hl1, hl2, hl3, rfl⟩
        dsimp only [S.put, optG]
        repeat (first | apply Wp.seq | apply Wp.block | (apply Run.next; (simp only [push_cast, seval, htk, hcl] <;> (try simp (disch := omega) only [wI, wU, wC]) <;> exact rfl); (focus ((try simp only [push_cast, seval, htk, hcl]) <;> exact sT))) | ((first | apply Run.nil | apply Wp.skip); dsimp only [sQ, tQ, bQ]) | (apply Wp.run; (dsimp only [List.map] <;> exact rfl); exact rfl) | (apply Wp.exit; dsimp only [sQ, tQ, bQ]; simp only [reduceIte]))
        (apply Wp.ret; (try dsimp only [sQ, tQ, bQ]); apply leaveA; exact rfl; (simp only [push_cast, seval, htk, hcl] <;> (try simp (disch := omega) only [wI, wU, wC]) <;> exact rfl); (focus (first | (simp only [push_cast, seval, htk, hcl]; done) | trivial | (simp only [push_cast, seval, htk, hcl]; trivial) | (simp; done))); (try simp only [push_cast, seval, htk, hcl]))
        rw [← hC] at hl2
        obtain ⟨o, ho1, rfl⟩ := cL_back hl2
        refine ⟨o, ⟨ho1, ?_⟩, rfl⟩
        unfold SortK cL at hl3
        rw [List.pairwise_map] at hl3
        simpa [stK] using hl3
end Go.Proofs.Try
