/- A part of the proof of PuzzlesCiphers: contracts of functions, with plain laws that they need. -/
import Derived.Test.YtmdkhbmhgcdpaaaVgX43J
set_option linter.all false
namespace Go.Proofs.Try
open Go.Vg

theorem weighed1_pure (n : Int) : Pure Try.prog 96 [.int n] (.bool (!(decide (1 ≤ n) && decide (n ≤ 10000)))) := by
  (refine Spec.of_body Try.func96 rfl (by rw [Try.ntmps96]; simp) 0 (by simp) ?_; rw [Try.results96, Try.ntmps96]; simp only [entry, zipArgs, Nat.reduceAdd])
  repeat (first | apply Wp.seq | apply Wp.block | (apply Run.next; (simp only [push_cast, seval] <;> (try simp (disch := omega) only [wI, wU, wC]) <;> exact rfl); (focus ((try simp only [push_cast, seval]) <;> exact sT))) | ((first | apply Run.nil | apply Wp.skip); dsimp only [sQ, tQ, bQ]) | (apply Wp.run; (dsimp only [List.map] <;> exact rfl); exact rfl) | (apply Wp.exit; dsimp only [sQ, tQ, bQ]; simp only [reduceIte]))
  (apply Run.pureP; (simp only [push_cast, seval] <;> (try simp (disch := omega) only [wI, wU, wC]) <;> exact rfl); (exact (Enters.of Try.func50 rfl rfl)); (exact within_pure _ _ _); (focus (simp only [push_cast, seval] <;> first | trivial | assumption | (refine ⟨?_, ?_⟩ <;> assumption) | (simp; done))); (try dsimp only [putA, optG]))
  repeat (first | apply Wp.seq | apply Wp.block | (apply Run.next; (simp only [push_cast, seval] <;> (try simp (disch := omega) only [wI, wU, wC]) <;> exact rfl); (focus ((try simp only [push_cast, seval]) <;> exact sT))) | ((first | apply Run.nil | apply Wp.skip); dsimp only [sQ, tQ, bQ]) | (apply Wp.run; (dsimp only [List.map] <;> exact rfl); exact rfl) | (apply Wp.exit; dsimp only [sQ, tQ, bQ]; simp only [reduceIte]))
  (apply Wp.ret; (try dsimp only [sQ, tQ, bQ]); apply leave0; exact rfl; (simp only [push_cast, seval] <;> (try simp (disch := omega) only [wI, wU, wC]) <;> exact rfl); all_goals (try simp only [push_cast, seval]); (try rfl))

def weighedB (ws : List Int) (load : Int) : Bool := decide ((ws.length : Int) ≤ 10) && (decide (0 ≤ load) && decide (load ≤ 10000)) && ws.all fun n => decide (1 ≤ n) && decide (n ≤ 10000)

theorem weighed_pure (ws : List Int) (load : Int) : Pure Try.prog 60 [.ints ws, .int load] (.bool (weighedB ws load)) := by
  (refine Spec.of_body Try.func60 rfl (by rw [Try.ntmps60]; simp) 0 (by simp) ?_; rw [Try.results60, Try.ntmps60]; simp only [entry, zipArgs, Nat.reduceAdd])
  apply Wp.len 0; (simp only [push_cast, seval] <;> (try simp (disch := omega) only [wI, wU, wC]) <;> exact rfl)
  intro hlen
  simp only [List.length_map] at hlen
  repeat (first | apply Wp.seq | apply Wp.block | (apply Run.next; (simp only [push_cast, seval] <;> (try simp (disch := omega) only [wI, wU, wC]) <;> exact rfl); (focus ((try simp only [push_cast, seval]) <;> exact sT))) | ((first | apply Run.nil | apply Wp.skip); dsimp only [sQ, tQ, bQ]) | (apply Wp.run; (dsimp only [List.map] <;> exact rfl); exact rfl) | (apply Wp.exit; dsimp only [sQ, tQ, bQ]; simp only [reduceIte]))
  (apply Run.pureP; (simp only [push_cast, seval] <;> (try simp (disch := omega) only [wI, wU, wC]) <;> exact rfl); (exact (Enters.of Try.func50 rfl rfl)); (exact within_pure _ _ _); (focus (simp only [push_cast, seval] <;> first | trivial | assumption | (refine ⟨?_, ?_⟩ <;> assumption) | (simp; done))); (try dsimp only [putA, optG]))
  repeat (first | apply Wp.seq | apply Wp.block | (apply Run.next; (simp only [push_cast, seval] <;> (try simp (disch := omega) only [wI, wU, wC]) <;> exact rfl); (focus ((try simp only [push_cast, seval]) <;> exact sT))) | ((first | apply Run.nil | apply Wp.skip); dsimp only [sQ, tQ, bQ]) | (apply Wp.run; (dsimp only [List.map] <;> exact rfl); exact rfl) | (apply Wp.exit; dsimp only [sQ, tQ, bQ]; simp only [reduceIte]))
  (apply Run.pureP; (simp only [push_cast, seval] <;> (try simp (disch := omega) only [wI, wU, wC]) <;> exact rfl); (exact (Enters.of Try.func51 rfl rfl)); (exact containsFunc_pure ws 96 [] _ (Enters.of Try.func96 rfl rfl) trivial (fun _ => ⟨rfl, rfl⟩) (fun x _ => weighed1_pure x) hlen); (focus (simp only [push_cast, seval] <;> first | trivial | assumption | (refine ⟨?_, ?_⟩ <;> assumption) | (simp; done))); (try dsimp only [putA, optG]))
  repeat (first | apply Wp.seq | apply Wp.block | (apply Run.next; (simp only [push_cast, seval] <;> (try simp (disch := omega) only [wI, wU, wC]) <;> exact rfl); (focus ((try simp only [push_cast, seval]) <;> exact sT))) | ((first | apply Run.nil | apply Wp.skip); dsimp only [sQ, tQ, bQ]) | (apply Wp.run; (dsimp only [List.map] <;> exact rfl); exact rfl) | (apply Wp.exit; dsimp only [sQ, tQ, bQ]; simp only [reduceIte]))
  (apply Wp.ret; (try dsimp only [sQ, tQ, bQ]); apply leave0; exact rfl; (simp only [push_cast, seval] <;> (try simp (disch := omega) only [wI, wU, wC]) <;> exact rfl); all_goals (try simp only [push_cast, seval]); (try rfl))
  unfold weighedB
  rw [any_not]
  simp

theorem weighings_spec (ws : List Int) (load : Int) : Go.Vg.Spec Try.prog 64 [.ints ws, .int load] [] fun x m' => x = .clo 97 [.optr 0 0 0 0, .optr 1 0 0 0] ∧ m' = [⟨0, .row 1 [.ints ws]⟩, ⟨0, .row 1 [.int load]⟩] := by
  (refine Spec.of_body Try.func64 rfl (by rw [Try.ntmps64]; simp) 2 (by simp) ?_; rw [Try.results64, Try.ntmps64]; simp only [entry, zipArgs, Nat.reduceAdd])
  repeat (first | apply Wp.seq | apply Wp.block | (apply Run.next; (simp only [push_cast, seval] <;> (try simp (disch := omega) only [wI, wU, wC]) <;> exact rfl); (focus ((try simp only [push_cast, seval]) <;> exact sT))) | ((first | apply Run.nil | apply Wp.skip); dsimp only [sQ, tQ, bQ]) | (apply Wp.run; (dsimp only [List.map] <;> exact rfl); exact rfl) | (apply Wp.exit; dsimp only [sQ, tQ, bQ]; simp only [reduceIte]))
  (apply Wp.ret; (try dsimp only [sQ, tQ, bQ]); apply leaveK; exact rfl; (simp only [push_cast, seval] <;> (try simp (disch := omega) only [wI, wU, wC]) <;> exact rfl); (focus (first | (simp only [push_cast, seval]; done) | trivial | (simp only [push_cast, seval]; trivial) | (simp; done))); (focus (first | (simp only [push_cast, seval]; done) | trivial | (simp only [push_cast, seval]; trivial) | (simp; done))); (focus (first | (simp only [push_cast, seval]; done) | trivial | (simp only [push_cast, seval]; trivial) | (simp; done))); (try simp only [push_cast, seval]))

def sv : Option (List Int) → AV
  | none => .emp
  | some l => .ints l
theorem sv_ok (k : Nat) (o : Option (List Int)) : (sv o).ok k = True := by cases o <;> simp [sv, AV.ok, okL_int]
/-- what Weigh does with a weighing -/
def goW (s : Option (List Int) × Int) (sides : List Int) (used : Int) : Option (List Int) × Int := if s.2 < 0 ∨ used < s.2 then (some sides, used) else s
def bestW (ws : List Int) (load : Int) : Option (List Int) × Int := (wgh goW ws 0 (0 - load) 0 (List.replicate ws.length 0) (none, -1)).1
def weighV (ws : List Int) (load : Int) : AV × Int :=
  if weighedB ws load then (if (bestW ws load).2 < 0 then (.emp, 3) else (sv (bestW ws load).1, 0)) else (.emp, 1)

def Kw (ws : List Int) (load : Int) (L : Kind) (s : Option (List Int) × Int) : Mem := [⟨0, .row 1 [sv s.1]⟩, ⟨0, .row 1 [.int s.2]⟩, ⟨0, .row 1 [.ints ws]⟩, ⟨0, .row 1 [.int load]⟩, ⟨0, .dfr⟩, ⟨0, L⟩]

theorem weigh_pure (ws : List Int) (load : Int) : Pure Try.prog 20 [.ints ws, .int load] (.tup [(weighV ws load).1, .int (weighV ws load).2]) := by
  (refine Spec.of_body Try.func20 rfl (by rw [Try.ntmps20]; simp) 0 (by simp) ?_; rw [Try.results20, Try.ntmps20]; simp only [entry, zipArgs, Nat.reduceAdd])
  repeat (first | apply Wp.seq | apply Wp.block | (apply Run.next; (simp only [push_cast, seval] <;> (try simp (disch := omega) only [wI, wU, wC]) <;> exact rfl); (focus ((try simp only [push_cast, seval]) <;> exact sT))) | ((first | apply Run.nil | apply Wp.skip); dsimp only [sQ, tQ, bQ]) | (apply Wp.run; (dsimp only [List.map] <;> exact rfl); exact rfl) | (apply Wp.exit; dsimp only [sQ, tQ, bQ]; simp only [reduceIte]))
  (apply Run.pureP; (simp only [push_cast, seval] <;> (try simp (disch := omega) only [wI, wU, wC]) <;> exact rfl); (exact (Enters.of Try.func60 rfl rfl)); (exact weighed_pure _ _); (focus (simp only [push_cast, seval] <;> first | trivial | assumption | (refine ⟨?_, ?_⟩ <;> assumption) | (simp; done))); (try dsimp only [putA, optG]))
  repeat (first | apply Wp.seq | apply Wp.block | (apply Run.next; (simp only [push_cast, seval] <;> (try simp (disch := omega) only [wI, wU, wC]) <;> exact rfl); (focus ((try simp only [push_cast, seval]) <;> exact sT))) | ((first | apply Run.nil | apply Wp.skip); dsimp only [sQ, tQ, bQ]) | (apply Wp.run; (dsimp only [List.map] <;> exact rfl); exact rfl) | (apply Wp.exit; dsimp only [sQ, tQ, bQ]; simp only [reduceIte]))
  (apply Wp.cond; (simp only [push_cast, seval] <;> (try simp (disch := omega) only [wI, wU, wC]) <;> exact rfl))
  · intro hc
    repeat (first | apply Wp.seq | apply Wp.block | (apply Run.next; (simp only [push_cast, seval] <;> (try simp (disch := omega) only [wI, wU, wC]) <;> exact rfl); (focus ((try simp only [push_cast, seval]) <;> exact sT))) | ((first | apply Run.nil | apply Wp.skip); dsimp only [sQ, tQ, bQ]) | (apply Wp.run; (dsimp only [List.map] <;> exact rfl); exact rfl) | (apply Wp.exit; dsimp only [sQ, tQ, bQ]; simp only [reduceIte]))
    (apply Wp.ret; (try dsimp only [sQ, tQ, bQ]); apply leave0; exact rfl; (simp only [push_cast, seval] <;> (try simp (disch := omega) only [wI, wU, wC]) <;> exact rfl); all_goals (try simp only [push_cast, seval]); (try rfl))
    simp only [Bool.not_eq_true'] at hc
    simp [weighV, hc]
  · intro hc
    simp only [Bool.not_eq_false'] at hc
    have hwd := hc
    have hw := hc
    simp only [weighedB, Bool.and_eq_true, decide_eq_true_eq, List.all_eq_true] at hw
    obtain ⟨⟨hw1, hw2⟩, hw3⟩ := hw
    have hb : bnd 10000 ws := fun x hx => by have := hw3 x hx; omega
    repeat (first | apply Wp.seq | apply Wp.block | (apply Run.next; (simp only [push_cast, seval] <;> (try simp (disch := omega) only [wI, wU, wC]) <;> exact rfl); (focus ((try simp only [push_cast, seval]) <;> exact sT))) | ((first | apply Run.nil | apply Wp.skip); dsimp only [sQ, tQ, bQ]) | (apply Wp.run; (dsimp only [List.map] <;> exact rfl); exact rfl) | (apply Wp.exit; dsimp only [sQ, tQ, bQ]; simp only [reduceIte]))
    (apply Run.freshE (he := (Enters.of Try.func64 rfl rfl)); (simp only [push_cast, seval] <;> first | exact rfl | assumption); (simp only [push_cast, seval] <;> (try simp (disch := omega) only [wI, wU, wC]) <;> exact rfl); (exact weighings_spec _ _); (focus (first | (simp only [push_cast, seval]; done) | trivial | (simp only [push_cast, seval]; trivial) | (simp; done))); (simp only [push_cast, seval] <;> (try simp (disch := omega) only [wI, wU, wC]) <;> exact rfl); (simp only [push_cast, seval] <;> (try simp (disch := omega) only [wI, wU, wC]) <;> exact rfl); dsimp only [S.put, optG])
    repeat (first | apply Wp.seq | apply Wp.block | (apply Run.next; (simp only [push_cast, seval] <;> (try simp (disch := omega) only [wI, wU, wC]) <;> exact rfl); (focus ((try simp only [push_cast, seval]) <;> exact sT))) | ((first | apply Run.nil | apply Wp.skip); dsimp only [sQ, tQ, bQ]) | (apply Wp.run; (dsimp only [List.map] <;> exact rfl); exact rfl) | (apply Wp.exit; dsimp only [sQ, tQ, bQ]; simp only [reduceIte]))
    refine Wp.range (by (simp only [push_cast, seval] <;> (try simp (disch := omega) only [wI, wU, wC]) <;> exact rfl)) (Enters.of Try.func97 rfl rfl) (N := 4) rfl (C := fun j M => j = none ∧ ∃ s, s = bestW ws load ∧ M = [⟨0, .row 1 [sv s.1]⟩, ⟨0, .row 1 [.int s.2]⟩, ⟨0, .row 1 [.ints ws]⟩, ⟨0, .row 1 [.int load]⟩]) ?_ ?_
    · refine Go.Vg.Spec.mono (weigh97 (Kw ws load _) 6 5 2 (fun s => rfl) (by omega) ws (fun s => rfl) ?_ (by omega) goW ?_ hb (by omega) 3 load (fun s => rfl) (by omega) (none, -1)) ?_
      · intro s k hk
        unfold Kw
        simp only [sv_ok, push_cast]
        omega
      · intro s sides used hsl
        refine YSpec.of_body (id := 5) (ver := 0) rfl rfl (by simp) ?_
        intro L
        obtain ⟨o, b⟩ := s
        unfold Kw wtail
        dsimp only [bindP, List.cons_append, List.nil_append]
        repeat (first | apply Wp.seq | apply Wp.block | (apply Run.next; (simp only [push_cast, seval] <;> (try simp (disch := omega) only [wI, wU, wC]) <;> exact rfl); (focus ((try simp only [push_cast, seval]) <;> exact sT))) | ((first | apply Run.nil | apply Wp.skip); dsimp only [sQ, tQ, bQ]) | (apply Wp.run; (dsimp only [List.map] <;> exact rfl); exact rfl) | (apply Wp.exit; dsimp only [sQ, tQ, bQ]; simp only [reduceIte]))
        refine ⟨rfl, rfl, ?_⟩
        dsimp only [List.set]
        have htk : sides.take ws.length = sides := by rw [← hsl]; simp
        cases o with
        | none =>
          repeat (first | apply Wp.seq | apply Wp.block | (apply Run.next; (simp only [push_cast, seval, hsl, htk, sv] <;> (try simp (disch := omega) only [wI, wU, wC]) <;> exact rfl); (focus ((try simp only [push_cast, seval, hsl, htk, sv]) <;> exact sT))) | ((first | apply Run.nil | apply Wp.skip); dsimp only [sQ, tQ, bQ]) | (apply Wp.run; (dsimp only [List.map] <;> exact rfl); exact rfl) | (apply Wp.exit; dsimp only [sQ, tQ, bQ]; simp only [reduceIte]))
          (apply Wp.cond; (simp only [push_cast, seval, hsl, htk, sv] <;> (try simp (disch := omega) only [wI, wU, wC]) <;> exact rfl))
          · intro h2
            repeat (first | apply Wp.seq | apply Wp.block | (apply Run.next; (simp only [push_cast, seval, hsl, htk, sv] <;> (try simp (disch := omega) only [wI, wU, wC]) <;> exact rfl); (focus ((try simp only [push_cast, seval, hsl, htk, sv]) <;> exact sT))) | ((first | apply Run.nil | apply Wp.skip); dsimp only [sQ, tQ, bQ]) | (apply Wp.run; (dsimp only [List.map] <;> exact rfl); exact rfl) | (apply Wp.exit; dsimp only [sQ, tQ, bQ]; simp only [reduceIte]))
            (apply Run.freshV (he := (Enters.of Try.func53 rfl rfl)); (simp only [push_cast, seval, hsl, htk, sv] <;> first | exact rfl | assumption); (simp only [push_cast, seval, hsl, htk, sv] <;> (try simp (disch := omega) only [wI, wU, wC]) <;> exact rfl); (exact clone_spec sides (by omega)); (focus (first | (simp only [push_cast, seval, hsl, htk, sv]; done) | trivial | (simp only [push_cast, seval, hsl, htk, sv]; trivial) | (simp; done) | (intro x hx; simp only [List.mem_cons, List.not_mem_nil, or_false] at hx; rcases hx with rfl | rfl <;> first | exact .inl trivial | exact .inr ⟨_, _, _, _, rfl⟩))); (focus (first | (simp only [push_cast, seval, hsl, htk, sv]; done) | trivial | (simp only [push_cast, seval, hsl, htk, sv]; trivial) | (simp; done) | (intro x hx; simp only [List.mem_cons, List.not_mem_nil, or_false] at hx; rcases hx with rfl | rfl <;> first | exact .inl trivial | exact .inr ⟨_, _, _, _, rfl⟩))); (focus (first | (simp only [push_cast, seval, hsl, htk, sv]; done) | trivial | (simp only [push_cast, seval, hsl, htk, sv]; trivial) | (simp; done) | (intro x hx; simp only [List.mem_cons, List.not_mem_nil, or_false] at hx; rcases hx with rfl | rfl <;> first | exact .inl trivial | exact .inr ⟨_, _, _, _, rfl⟩))); (dsimp only [S.put, optG]; try dsimp only [AV.shift, List.length_nil, List.length_cons, List.nil_append, List.cons_append, Nat.zero_add, Nat.add_zero, Nat.reduceAdd]))
            (apply Run.freeze 26; (simp only [push_cast, seval, hsl, htk, sv] <;> (try simp (disch := omega) only [wI, wU, wC]) <;> exact rfl); (simp only [push_cast, seval, hsl, htk, sv] <;> (try simp (disch := omega) only [wI, wU, wC]) <;> exact rfl); (focus (try simp only [push_cast, seval, hsl, htk, sv]); (try (exact sT))); (focus (exact sT)); (simp only [push_cast, seval, hsl, htk, sv] <;> (try simp (disch := omega) only [wI, wU, wC]) <;> exact rfl); (simp only [push_cast, seval, hsl, htk, sv] <;> (try simp (disch := omega) only [wI, wU, wC]) <;> exact rfl))
            repeat (first | apply Wp.seq | apply Wp.block | (apply Run.next; (simp only [push_cast, seval, hsl, htk, sv] <;> (try simp (disch := omega) only [wI, wU, wC]) <;> exact rfl); (focus ((try simp only [push_cast, seval, hsl, htk, sv]) <;> exact sT))) | ((first | apply Run.nil | apply Wp.skip); dsimp only [sQ, tQ, bQ]) | (apply Wp.run; (dsimp only [List.map] <;> exact rfl); exact rfl) | (apply Wp.exit; dsimp only [sQ, tQ, bQ]; simp only [reduceIte]))
            refine ⟨rfl, ?_, rfl, ?_⟩
            · simp only [push_cast, seval, hsl, htk, sv]
            · simp only [Bool.or_eq_true, decide_eq_true_eq] at h2
              unfold goW
              rw [if_pos h2]; rfl
          · intro h2
            repeat (first | apply Wp.seq | apply Wp.block | (apply Run.next; (simp only [push_cast, seval, hsl, htk, sv] <;> (try simp (disch := omega) only [wI, wU, wC]) <;> exact rfl); (focus ((try simp only [push_cast, seval, hsl, htk, sv]) <;> exact sT))) | ((first | apply Run.nil | apply Wp.skip); dsimp only [sQ, tQ, bQ]) | (apply Wp.run; (dsimp only [List.map] <;> exact rfl); exact rfl) | (apply Wp.exit; dsimp only [sQ, tQ, bQ]; simp only [reduceIte]))
            refine ⟨rfl, ?_, rfl, ?_⟩
            · simp only [push_cast, seval, hsl, htk, sv]
            · simp only [Bool.or_eq_false_iff, decide_eq_false_iff_not] at h2
              unfold goW
              rw [if_neg (by simp only; omega)]; rfl
        | some l =>
          repeat (first | apply Wp.seq | apply Wp.block | (apply Run.next; (simp only [push_cast, seval, hsl, htk, sv] <;> (try simp (disch := omega) only [wI, wU, wC]) <;> exact rfl); (focus ((try simp only [push_cast, seval, hsl, htk, sv]) <;> exact sT))) | ((first | apply Run.nil | apply Wp.skip); dsimp only [sQ, tQ, bQ]) | (apply Wp.run; (dsimp only [List.map] <;> exact rfl); exact rfl) | (apply Wp.exit; dsimp only [sQ, tQ, bQ]; simp only [reduceIte]))
          (apply Wp.cond; (simp only [push_cast, seval, hsl, htk, sv] <;> (try simp (disch := omega) only [wI, wU, wC]) <;> exact rfl))
          · intro h2
            repeat (first | apply Wp.seq | apply Wp.block | (apply Run.next; (simp only [push_cast, seval, hsl, htk, sv] <;> (try simp (disch := omega) only [wI, wU, wC]) <;> exact rfl); (focus ((try simp only [push_cast, seval, hsl, htk, sv]) <;> exact sT))) | ((first | apply Run.nil | apply Wp.skip); dsimp only [sQ, tQ, bQ]) | (apply Wp.run; (dsimp only [List.map] <;> exact rfl); exact rfl) | (apply Wp.exit; dsimp only [sQ, tQ, bQ]; simp only [reduceIte]))
            (apply Run.freshV (he := (Enters.of Try.func53 rfl rfl)); (simp only [push_cast, seval, hsl, htk, sv] <;> first | exact rfl | assumption); (simp only [push_cast, seval, hsl, htk, sv] <;> (try simp (disch := omega) only [wI, wU, wC]) <;> exact rfl); (exact clone_spec sides (by omega)); (focus (first | (simp only [push_cast, seval, hsl, htk, sv]; done) | trivial | (simp only [push_cast, seval, hsl, htk, sv]; trivial) | (simp; done) | (intro x hx; simp only [List.mem_cons, List.not_mem_nil, or_false] at hx; rcases hx with rfl | rfl <;> first | exact .inl trivial | exact .inr ⟨_, _, _, _, rfl⟩))); (focus (first | (simp only [push_cast, seval, hsl, htk, sv]; done) | trivial | (simp only [push_cast, seval, hsl, htk, sv]; trivial) | (simp; done) | (intro x hx; simp only [List.mem_cons, List.not_mem_nil, or_false] at hx; rcases hx with rfl | rfl <;> first | exact .inl trivial | exact .inr ⟨_, _, _, _, rfl⟩))); (focus (first | (simp only [push_cast, seval, hsl, htk, sv]; done) | trivial | (simp only [push_cast, seval, hsl, htk, sv]; trivial) | (simp; done) | (intro x hx; simp only [List.mem_cons, List.not_mem_nil, or_false] at hx; rcases hx with rfl | rfl <;> first | exact .inl trivial | exact .inr ⟨_, _, _, _, rfl⟩))); (dsimp only [S.put, optG]; try dsimp only [AV.shift, List.length_nil, List.length_cons, List.nil_append, List.cons_append, Nat.zero_add, Nat.add_zero, Nat.reduceAdd]))
            (apply Run.freeze 26; (simp only [push_cast, seval, hsl, htk, sv] <;> (try simp (disch := omega) only [wI, wU, wC]) <;> exact rfl); (simp only [push_cast, seval, hsl, htk, sv] <;> (try simp (disch := omega) only [wI, wU, wC]) <;> exact rfl); (focus (try simp only [push_cast, seval, hsl, htk, sv]); (try (exact sT))); (focus (exact sT)); (simp only [push_cast, seval, hsl, htk, sv] <;> (try simp (disch := omega) only [wI, wU, wC]) <;> exact rfl); (simp only [push_cast, seval, hsl, htk, sv] <;> (try simp (disch := omega) only [wI, wU, wC]) <;> exact rfl))
            repeat (first | apply Wp.seq | apply Wp.block | (apply Run.next; (simp only [push_cast, seval, hsl, htk, sv] <;> (try simp (disch := omega) only [wI, wU, wC]) <;> exact rfl); (focus ((try simp only [push_cast, seval, hsl, htk, sv]) <;> exact sT))) | ((first | apply Run.nil | apply Wp.skip); dsimp only [sQ, tQ, bQ]) | (apply Wp.run; (dsimp only [List.map] <;> exact rfl); exact rfl) | (apply Wp.exit; dsimp only [sQ, tQ, bQ]; simp only [reduceIte]))
            refine ⟨rfl, ?_, rfl, ?_⟩
            · simp only [push_cast, seval, hsl, htk, sv]
            · simp only [Bool.or_eq_true, decide_eq_true_eq] at h2
              unfold goW
              rw [if_pos h2]; rfl
          · intro h2
            repeat (first | apply Wp.seq | apply Wp.block | (apply Run.next; (simp only [push_cast, seval, hsl, htk, sv] <;> (try simp (disch := omega) only [wI, wU, wC]) <;> exact rfl); (focus ((try simp only [push_cast, seval, hsl, htk, sv]) <;> exact sT))) | ((first | apply Run.nil | apply Wp.skip); dsimp only [sQ, tQ, bQ]) | (apply Wp.run; (dsimp only [List.map] <;> exact rfl); exact rfl) | (apply Wp.exit; dsimp only [sQ, tQ, bQ]; simp only [reduceIte]))
            refine ⟨rfl, ?_, rfl, ?_⟩
            · simp only [push_cast, seval, hsl, htk, sv]
            · simp only [Bool.or_eq_false_iff, decide_eq_false_iff_not] at h2
              unfold goW
              rw [if_neg (by simp only; omega)]; rfl
      · rintro x m' rfl
        exact ⟨_, none, ⟨rfl, _, rfl, rfl⟩, rfl, rfl⟩
    · rintro M j ⟨rfl, ⟨o, b⟩, hs, rfl⟩
      dsimp only [bQ, sQ, List.cons_append, List.nil_append]
      repeat (first | apply Wp.seq | apply Wp.block | (apply Run.next; (simp only [push_cast, seval, sv] <;> (try simp (disch := omega) only [wI, wU, wC]) <;> exact rfl); (focus ((try simp only [push_cast, seval, sv]) <;> exact sT))) | ((first | apply Run.nil | apply Wp.skip); dsimp only [sQ, tQ, bQ]) | (apply Wp.run; (dsimp only [List.map] <;> exact rfl); exact rfl) | (apply Wp.exit; dsimp only [sQ, tQ, bQ]; simp only [reduceIte]))
      (apply Wp.cond; (simp only [push_cast, seval, sv] <;> (try simp (disch := omega) only [wI, wU, wC]) <;> exact rfl))
      · (intro hc; try simp only [decide_eq_true_eq, decide_eq_false_iff_not, Bool.and_eq_true, Bool.or_eq_true, Bool.not_eq_true, Bool.not_eq_false, Bool.not_eq_true', Bool.not_eq_false', Bool.and_eq_false_iff, Bool.or_eq_false_iff, Int.not_lt, Int.not_le, Int.ofNat_lt, Int.ofNat_le] at hc)
        repeat (first | apply Wp.seq | apply Wp.block | (apply Run.next; (simp only [push_cast, seval, sv] <;> (try simp (disch := omega) only [wI, wU, wC]) <;> exact rfl); (focus ((try simp only [push_cast, seval, sv]) <;> exact sT))) | ((first | apply Run.nil | apply Wp.skip); dsimp only [sQ, tQ, bQ]) | (apply Wp.run; (dsimp only [List.map] <;> exact rfl); exact rfl) | (apply Wp.exit; dsimp only [sQ, tQ, bQ]; simp only [reduceIte]))
        (apply Wp.ret; (try dsimp only [sQ, tQ, bQ]); apply leaveM; (focus (first | (simp only [push_cast, seval, sv]; done) | trivial | (simp only [push_cast, seval, sv]; trivial) | (simp; done))); (focus (first | (simp only [push_cast, seval, sv]; done) | trivial | (simp only [push_cast, seval, sv]; trivial) | (simp; done))); (simp only [push_cast, seval, sv] <;> (try simp (disch := omega) only [wI, wU, wC]) <;> exact rfl); (focus (first | (simp only [push_cast, seval, sv]; done) | trivial | (simp only [push_cast, seval, sv]; trivial) | (simp; done))); (focus (first | (simp only [push_cast, seval, sv]; done) | trivial | (simp only [push_cast, seval, sv]; trivial) | (simp; done))); (focus (first | (simp only [push_cast, seval, sv]; done) | trivial | (simp only [push_cast, seval, sv]; trivial) | (simp; done))); (try simp only [push_cast, seval, sv]))
        simp [weighV, hwd, ← hs, hc]
      · (intro hc; try simp only [decide_eq_true_eq, decide_eq_false_iff_not, Bool.and_eq_true, Bool.or_eq_true, Bool.not_eq_true, Bool.not_eq_false, Bool.not_eq_true', Bool.not_eq_false', Bool.and_eq_false_iff, Bool.or_eq_false_iff, Int.not_lt, Int.not_le, Int.ofNat_lt, Int.ofNat_le] at hc)
        cases o with
        | none =>
          repeat (first | apply Wp.seq | apply Wp.block | (apply Run.next; (simp only [push_cast, seval, sv] <;> (try simp (disch := omega) only [wI, wU, wC]) <;> exact rfl); (focus ((try simp only [push_cast, seval, sv]) <;> exact sT))) | ((first | apply Run.nil | apply Wp.skip); dsimp only [sQ, tQ, bQ]) | (apply Wp.run; (dsimp only [List.map] <;> exact rfl); exact rfl) | (apply Wp.exit; dsimp only [sQ, tQ, bQ]; simp only [reduceIte]))
          (apply Wp.ret; (try dsimp only [sQ, tQ, bQ]); apply leaveM; (focus (first | (simp only [push_cast, seval, sv]; done) | trivial | (simp only [push_cast, seval, sv]; trivial) | (simp; done))); (focus (first | (simp only [push_cast, seval, sv]; done) | trivial | (simp only [push_cast, seval, sv]; trivial) | (simp; done))); (simp only [push_cast, seval, sv] <;> (try simp (disch := omega) only [wI, wU, wC]) <;> exact rfl); (focus (first | (simp only [push_cast, seval, sv]; done) | trivial | (simp only [push_cast, seval, sv]; trivial) | (simp; done))); (focus (first | (simp only [push_cast, seval, sv]; done) | trivial | (simp only [push_cast, seval, sv]; trivial) | (simp; done))); (focus (first | (simp only [push_cast, seval, sv]; done) | trivial | (simp only [push_cast, seval, sv]; trivial) | (simp; done))); (try simp only [push_cast, seval, sv]))
          simp only [weighV, hwd, ← hs, sv, if_true, if_neg (by omega : ¬ b < 0)]
        | some l =>
          repeat (first | apply Wp.seq | apply Wp.block | (apply Run.next; (simp only [push_cast, seval, sv] <;> (try simp (disch := omega) only [wI, wU, wC]) <;> exact rfl); (focus ((try simp only [push_cast, seval, sv]) <;> exact sT))) | ((first | apply Run.nil | apply Wp.skip); dsimp only [sQ, tQ, bQ]) | (apply Wp.run; (dsimp only [List.map] <;> exact rfl); exact rfl) | (apply Wp.exit; dsimp only [sQ, tQ, bQ]; simp only [reduceIte]))
          (apply Wp.ret; (try dsimp only [sQ, tQ, bQ]); apply leaveM; (focus (first | (simp only [push_cast, seval, sv]; done) | trivial | (simp only [push_cast, seval, sv]; trivial) | (simp; done))); (focus (first | (simp only [push_cast, seval, sv]; done) | trivial | (simp only [push_cast, seval, sv]; trivial) | (simp; done))); (simp only [push_cast, seval, sv] <;> (try simp (disch := omega) only [wI, wU, wC]) <;> exact rfl); (focus (first | (simp only [push_cast, seval, sv]; done) | trivial | (simp only [push_cast, seval, sv]; trivial) | (simp; done))); (focus (first | (simp only [push_cast, seval, sv]; done) | trivial | (simp only [push_cast, seval, sv]; trivial) | (simp; done))); (focus (first | (simp only [push_cast, seval, sv]; done) | trivial | (simp only [push_cast, seval, sv]; trivial) | (simp; done))); (try simp only [push_cast, seval, sv]))
          simp only [weighV, hwd, ← hs, sv, if_true, if_neg (by omega : ¬ b < 0)]
end Go.Proofs.Try
namespace Go.Proofs.Try
open Go.Vg

theorem works_shift : shiftV ⟨#[107, 101, 121, 32, 116, 111, 32, 114, 101, 100]⟩ 3 = (⟨#[110, 104, 98, 32, 119, 114, 32, 117, 104, 103]⟩, 0) := by decide
theorem works_weigh : bestW [1, 3, 9] 5 = (some [-1, -1, 1], 3) := by decide
theorem works_next : nextV [1, 4, 9, 16] = (25, 2, 0) := by decide

theorem works_c1 : Pure Try.prog 42 [.str ⟨#[107, 101, 121, 32, 116, 111, 32, 114, 101, 100]⟩, .int 3] (.tup [.str ⟨#[110, 104, 98, 32, 119, 114, 32, 117, 104, 103]⟩, .int 0]) := by
  have := shiftV_pure ⟨#[107, 101, 121, 32, 116, 111, 32, 114, 101, 100]⟩ 3
  rw [works_shift] at this; exact this
theorem works_c2 : Pure Try.prog 20 [.lst 1 [.int 1, .int 3, .int 9], .int 5] (.tup [.lst 1 [.int (-1), .int (-1), .int 1], .int 0]) := by
  have := weigh_pure [1, 3, 9] 5
  have e : weighV [1, 3, 9] 5 = (.ints [-1, -1, 1], 0) := by
    unfold weighV
    rw [if_pos (by decide), works_weigh]; rfl
  rw [e] at this; exact this
theorem works_c3 : Pure Try.prog 15 [.lst 1 [.int 1, .int 4, .int 9, .int 16]] (.tup [.int 25, .int 2, .int 0]) := by
  have := next_pure [1, 4, 9, 16]
  rw [works_next] at this; exact this
theorem works_c4 : Pure Try.prog 22 [.lst 1 [.int (-1), .int (-1), .int 1], .lst 1 [.int (-1), .int (-1), .int 1]] (.bool true) := by
  have := sameInts_pure [-1, -1, 1] [-1, -1, 1]
  exact this

theorem works_pure : Pure Try.prog 17 [] (.bool true) := by
  (refine Spec.of_body Try.func17 rfl (by rw [Try.ntmps17]; simp) 0 (by simp) ?_; rw [Try.results17, Try.ntmps17]; simp only [entry, zipArgs, Nat.reduceAdd])
  repeat (first | apply Wp.seq | apply Wp.block | (apply Run.next; (simp only [push_cast, seval] <;> (try simp (disch := omega) only [wI, wU, wC]) <;> exact rfl); (focus ((try simp only [push_cast, seval]) <;> exact sT))) | ((first | apply Run.nil | apply Wp.skip); dsimp only [sQ, tQ, bQ]) | (apply Wp.run; (dsimp only [List.map] <;> exact rfl); exact rfl) | (apply Wp.exit; dsimp only [sQ, tQ, bQ]; simp only [reduceIte]))
  (apply Run.pureP; (simp only [push_cast, seval] <;> (try simp (disch := omega) only [wI, wU, wC]) <;> exact rfl); (exact (Enters.of Try.func42 rfl rfl)); (exact works_c1); (focus (simp only [push_cast, seval] <;> first | trivial | assumption | (refine ⟨?_, ?_⟩ <;> assumption) | (simp; done))); (try dsimp only [putA, optG]))
  repeat (first | apply Wp.seq | apply Wp.block | (apply Run.next; (simp only [push_cast, seval] <;> (try simp (disch := omega) only [wI, wU, wC]) <;> exact rfl); (focus ((try simp only [push_cast, seval]) <;> exact sT))) | ((first | apply Run.nil | apply Wp.skip); dsimp only [sQ, tQ, bQ]) | (apply Wp.run; (dsimp only [List.map] <;> exact rfl); exact rfl) | (apply Wp.exit; dsimp only [sQ, tQ, bQ]; simp only [reduceIte]))
  (apply Run.pureFP; (simp only [push_cast, seval] <;> (try simp (disch := omega) only [wI, wU, wC]) <;> exact rfl); (exact (Enters.of Try.func20 rfl rfl)); (exact works_c2); (focus (simp only [push_cast, seval] <;> first | trivial | assumption | (refine ⟨?_, ?_⟩ <;> assumption) | (simp; done))); (try dsimp only [putA, optG]))
  repeat (first | apply Wp.seq | apply Wp.block | (apply Run.next; (simp only [push_cast, seval] <;> (try simp (disch := omega) only [wI, wU, wC]) <;> exact rfl); (focus ((try simp only [push_cast, seval]) <;> exact sT))) | ((first | apply Run.nil | apply Wp.skip); dsimp only [sQ, tQ, bQ]) | (apply Wp.run; (dsimp only [List.map] <;> exact rfl); exact rfl) | (apply Wp.exit; dsimp only [sQ, tQ, bQ]; simp only [reduceIte]))
  (apply Run.pureFP; (simp only [push_cast, seval] <;> (try simp (disch := omega) only [wI, wU, wC]) <;> exact rfl); (exact (Enters.of Try.func15 rfl rfl)); (exact works_c3); (focus (simp only [push_cast, seval] <;> first | trivial | assumption | (refine ⟨?_, ?_⟩ <;> assumption) | (simp; done))); (try dsimp only [putA, optG]))
  repeat (first | apply Wp.seq | apply Wp.block | (apply Run.next; (simp only [push_cast, seval] <;> (try simp (disch := omega) only [wI, wU, wC]) <;> exact rfl); (focus ((try simp only [push_cast, seval]) <;> exact sT))) | ((first | apply Run.nil | apply Wp.skip); dsimp only [sQ, tQ, bQ]) | (apply Wp.run; (dsimp only [List.map] <;> exact rfl); exact rfl) | (apply Wp.exit; dsimp only [sQ, tQ, bQ]; simp only [reduceIte]))
  (try (apply Run.gtrue; (simp only [push_cast, seval] <;> (try simp (disch := omega) only [wI, wU, wC]) <;> exact rfl); (simp only [push_cast, seval] <;> (try simp (disch := omega) only [wI, wU, wC]) <;> exact rfl)))
  repeat (first | apply Wp.seq | apply Wp.block | (apply Run.next; (simp only [push_cast, seval] <;> (try simp (disch := omega) only [wI, wU, wC]) <;> exact rfl); (focus ((try simp only [push_cast, seval]) <;> exact sT))) | ((first | apply Run.nil | apply Wp.skip); dsimp only [sQ, tQ, bQ]) | (apply Wp.run; (dsimp only [List.map] <;> exact rfl); exact rfl) | (apply Wp.exit; dsimp only [sQ, tQ, bQ]; simp only [reduceIte]))
  (try (apply Run.gtrue; (simp only [push_cast, seval] <;> (try simp (disch := omega) only [wI, wU, wC]) <;> exact rfl); (simp only [push_cast, seval] <;> (try simp (disch := omega) only [wI, wU, wC]) <;> exact rfl)))
  (apply Run.pureP; (simp only [push_cast, seval] <;> (try simp (disch := omega) only [wI, wU, wC]) <;> exact rfl); (exact (Enters.of Try.func22 rfl rfl)); (exact works_c4); (focus (simp only [push_cast, seval] <;> first | trivial | assumption | (refine ⟨?_, ?_⟩ <;> assumption) | (simp; done))); (try dsimp only [putA, optG]))
  repeat (first | apply Wp.seq | apply Wp.block | (apply Run.next; (simp only [push_cast, seval] <;> (try simp (disch := omega) only [wI, wU, wC]) <;> exact rfl); (focus ((try simp only [push_cast, seval]) <;> exact sT))) | ((first | apply Run.nil | apply Wp.skip); dsimp only [sQ, tQ, bQ]) | (apply Wp.run; (dsimp only [List.map] <;> exact rfl); exact rfl) | (apply Wp.exit; dsimp only [sQ, tQ, bQ]; simp only [reduceIte]))
  (apply Wp.ret; (try dsimp only [sQ, tQ, bQ]); apply leave0; exact rfl; (simp only [push_cast, seval] <;> (try simp (disch := omega) only [wI, wU, wC]) <;> exact rfl); all_goals (try simp only [push_cast, seval]); (try rfl))
end Go.Proofs.Try
set_option maxHeartbeats 8000000
namespace Go.Proofs.Try
open Go.Vg

/-! Crack -/
theorem shiftB_size (b : ByteArray) (n : Int) : (shiftB b n).size = b.size := by
  unfold shiftB
  show (changeL _ _ 0).toArray.size = _
  rw [List.size_toArray, changeL_len, bszL]
/-- the shifts up to k by which the text contains the part -/
def crkL (b p : ByteArray) (k : Nat) : List Int := ((List.range k).filter fun n : Nat => Lib.contains (shiftB b (n : Int)).data.toList p.data.toList).map fun n : Nat => (n : Int)
theorem crkL_succ (b p : ByteArray) (k : Nat) : crkL b p (k + 1) = if Lib.contains (shiftB b (k : Int)).data.toList p.data.toList = true then crkL b p k ++ [(k : Int)] else crkL b p k := by
  unfold crkL
  rw [List.range_succ, List.filter_append, List.map_append]
  by_cases h : Lib.contains (shiftB b (k : Int)).data.toList p.data.toList = true
  · rw [if_pos h, List.filter_cons, if_pos h]; rfl
  · rw [if_neg h, List.filter_cons, if_neg h]; simp
theorem crkL_len (b p : ByteArray) (k : Nat) : (crkL b p k).length ≤ k := by
  unfold crkL
  rw [List.length_map]
  refine Nat.le_trans (List.length_filter_le _ _) ?_
  simp
def crkE (b p : ByteArray) : Int := if 200 < max (b.size : Int) (p.size : Int) then 2 else 0
def crkA (b p : ByteArray) : AV := if 200 < max (b.size : Int) (p.size : Int) then .emp else .ints (crkL b p 26)
theorem rcontains_pure (b p : ByteArray) (hb : b.size ≤ 1000) (hp : p.size ≤ 1000) : Pure Try.prog 94 [.str b, .str p] (.bool (Lib.contains b.data.toList p.data.toList)) := by
  have hbl := bszL b
  have hpl := bszL p
  have hoc : ∀ k : Nat, k + p.size ≤ b.size → decide (b.extract k ((k : Int) + (p.size : Int)).toNat = p) = Lib.occAt b.data.toList p.data.toList k := by
    intro k hk
    rw [Lib.occAt_iff_take _ _ _ (by omega), show ((k : Int) + (p.size : Int)).toNat = k + p.size by omega]
    have he : (b.extract k (k + p.size)).data.toList = (b.data.toList.drop k).take p.data.toList.length := by rw [Lib.extract_data, hpl, show k + p.size - k = p.size by omega]
    refine Bool.eq_iff_iff.2 ?_
    rw [decide_eq_true_eq, beq_iff_eq, ← he]
    refine ⟨fun h => by rw [h], fun h => ?_⟩
    generalize b.extract k (k + p.size) = e at h
    obtain ⟨⟨l1⟩⟩ := e
    obtain ⟨⟨l2⟩⟩ := p
    simp only at h
    rw [h]
  have hyes : ∀ k : Nat, k ≤ b.size → Lib.occAt b.data.toList p.data.toList k = true → Lib.contains b.data.toList p.data.toList = true := by
    intro k hk h
    unfold Lib.contains
    rcases Lib.index_spec b.data.toList p.data.toList with ⟨_, h2⟩ | ⟨i, h2, _⟩
    · rw [h2 k (by omega)] at h; cases h
    · rw [h2]; exact decide_eq_true (Int.natCast_nonneg _)
  have hno : (∀ j, j ≤ b.size → Lib.occAt b.data.toList p.data.toList j = false) → Lib.contains b.data.toList p.data.toList = false := by
    intro h
    unfold Lib.contains
    rw [Lib.index_none (fun j hj => h j (by omega))]
    rfl
  (refine Spec.of_body Try.func94 rfl (by rw [Try.ntmps94]; simp) 0 (by simp) ?_; rw [Try.results94, Try.ntmps94]; simp only [entry, zipArgs, Nat.reduceAdd])
  repeat (first | apply Wp.seq | apply Wp.block | (apply Run.next; (simp only [push_cast, seval] <;> (try simp (disch := omega) only [wI, wU, wC]) <;> exact rfl); (focus ((try simp only [push_cast, seval]) <;> exact sT))) | ((first | apply Run.nil | apply Wp.skip); dsimp only [sQ, tQ, bQ]) | (apply Wp.run; (dsimp only [List.map] <;> exact rfl); exact rfl) | (apply Wp.exit; dsimp only [sQ, tQ, bQ]; simp only [reduceIte]))
  refine Wp.loop (fun k : Nat => { t := [(0, .str b), (1, .str p), (5, .int k)], m := [], n := 24 }) (fun k => k ≤ b.size + 1 ∧ ∀ j, j < k → Lib.occAt b.data.toList p.data.toList j = false) (fun k => b.size + 1 - k) 0 ?_ ?_ ?_
  · (refine Le.of ?_ ?_ rfl rfl <;> (try simp only [push_cast, seval]) <;> (try (with_reducible rfl)))
  · simp
  · rintro k ⟨hk0, hk⟩
    by_cases hkb : k + p.size ≤ b.size
    · have e1 : decide ((k : Int) + (p.size : Int) ≤ (b.size : Int)) = true := decide_eq_true (by omega)
      have hok := hoc k hkb
      cases hoo : Lib.occAt b.data.toList p.data.toList k with
      | true =>
        rw [hoo] at hok
        rw [hyes k (by omega) hoo]
        repeat (first | apply Wp.seq | apply Wp.block | (apply Run.next; (simp only [push_cast, seval, e1, hok] <;> (try simp (disch := omega) only [wI, wU, wC]) <;> exact rfl); (focus ((try simp only [push_cast, seval, e1, hok]) <;> exact sT))) | ((first | apply Run.nil | apply Wp.skip); dsimp only [sQ, tQ, bQ]) | (apply Wp.run; (dsimp only [List.map] <;> exact rfl); exact rfl) | (apply Wp.exit; dsimp only [sQ, tQ, bQ]; simp only [reduceIte]) | (apply Run.gtrue; (simp only [push_cast, seval, e1, hok] <;> (try simp (disch := omega) only [wI, wU, wC]) <;> exact rfl); (simp only [push_cast, seval, e1, hok] <;> (try simp (disch := omega) only [wI, wU, wC]) <;> exact rfl)) | (apply Run.gfalse (.bool false); (simp only [push_cast, seval, e1, hok] <;> (try simp (disch := omega) only [wI, wU, wC]) <;> exact rfl); dsimp only [S.put, optG]) | (apply Wp.condT; (simp only [push_cast, seval, e1, hok] <;> (try simp (disch := omega) only [wI, wU, wC]) <;> exact rfl)) | (apply Wp.condF; (simp only [push_cast, seval, e1, hok] <;> (try simp (disch := omega) only [wI, wU, wC]) <;> exact rfl)))
        (apply Wp.ret; (try dsimp only [sQ, tQ, bQ]); apply leave0; exact rfl; (simp only [push_cast, seval, e1, hok] <;> (try simp (disch := omega) only [wI, wU, wC]) <;> exact rfl); all_goals (try simp only [push_cast, seval, e1, hok]); (try rfl))
      | false =>
        rw [hoo] at hok
        repeat (first | apply Wp.seq | apply Wp.block | (apply Run.next; (simp only [push_cast, seval, e1, hok] <;> (try simp (disch := omega) only [wI, wU, wC]) <;> exact rfl); (focus ((try simp only [push_cast, seval, e1, hok]) <;> exact sT))) | ((first | apply Run.nil | apply Wp.skip); dsimp only [sQ, tQ, bQ]) | (apply Wp.run; (dsimp only [List.map] <;> exact rfl); exact rfl) | (apply Wp.exit; dsimp only [sQ, tQ, bQ]; simp only [reduceIte]) | (apply Run.gtrue; (simp only [push_cast, seval, e1, hok] <;> (try simp (disch := omega) only [wI, wU, wC]) <;> exact rfl); (simp only [push_cast, seval, e1, hok] <;> (try simp (disch := omega) only [wI, wU, wC]) <;> exact rfl)) | (apply Run.gfalse (.bool false); (simp only [push_cast, seval, e1, hok] <;> (try simp (disch := omega) only [wI, wU, wC]) <;> exact rfl); dsimp only [S.put, optG]) | (apply Wp.condT; (simp only [push_cast, seval, e1, hok] <;> (try simp (disch := omega) only [wI, wU, wC]) <;> exact rfl)) | (apply Wp.condF; (simp only [push_cast, seval, e1, hok] <;> (try simp (disch := omega) only [wI, wU, wC]) <;> exact rfl)))
        refine ⟨k + 1, ?_, ⟨by omega, fun j hj => ?_⟩, by omega⟩
        · (refine Le.of ?_ ?_ rfl rfl <;> (try simp only [push_cast, seval, e1, hok]) <;> (try (with_reducible rfl)))
        · by_cases hjk : j = k
          · subst hjk; exact hoo
          · exact hk j (by omega)
    · have e1 : decide ((k : Int) + (p.size : Int) ≤ (b.size : Int)) = false := decide_eq_false (by omega)
      rw [hno fun j hj => by
        by_cases hjk : j < k
        · exact hk j hjk
        · rw [← Bool.not_eq_true]
          intro h
          rcases Lib.occAt_room h with h | h
          · omega
          · have : p.data.toList.length = 0 := by rw [h]; rfl
            omega]
      repeat (first | apply Wp.seq | apply Wp.block | (apply Run.next; (simp only [push_cast, seval, e1] <;> (try simp (disch := omega) only [wI, wU, wC]) <;> exact rfl); (focus ((try simp only [push_cast, seval, e1]) <;> exact sT))) | ((first | apply Run.nil | apply Wp.skip); dsimp only [sQ, tQ, bQ]) | (apply Wp.run; (dsimp only [List.map] <;> exact rfl); exact rfl) | (apply Wp.exit; dsimp only [sQ, tQ, bQ]; simp only [reduceIte]) | (apply Run.gtrue; (simp only [push_cast, seval, e1] <;> (try simp (disch := omega) only [wI, wU, wC]) <;> exact rfl); (simp only [push_cast, seval, e1] <;> (try simp (disch := omega) only [wI, wU, wC]) <;> exact rfl)) | (apply Run.gfalse (.bool false); (simp only [push_cast, seval, e1] <;> (try simp (disch := omega) only [wI, wU, wC]) <;> exact rfl); dsimp only [S.put, optG]) | (apply Wp.condT; (simp only [push_cast, seval, e1] <;> (try simp (disch := omega) only [wI, wU, wC]) <;> exact rfl)) | (apply Wp.condF; (simp only [push_cast, seval, e1] <;> (try simp (disch := omega) only [wI, wU, wC]) <;> exact rfl)))
      (apply Wp.ret; (try dsimp only [sQ, tQ, bQ]); apply leave0; exact rfl; (simp only [push_cast, seval, e1] <;> (try simp (disch := omega) only [wI, wU, wC]) <;> exact rfl); all_goals (try simp only [push_cast, seval, e1]); (try rfl))
theorem Crack_pure (b p : ByteArray) : Pure Try.prog 46 [.str b, .str p] (.tup [crkA b p, .int (crkE b p)]) := by
  unfold crkA crkE
  by_cases h1 : 200 < max (b.size : Int) (p.size : Int)
  · have e1 : decide (200 < max (b.size : Int) (p.size : Int)) = true := decide_eq_true h1
    rw [if_pos h1, if_pos h1]
    (refine Spec.of_body Try.func46 rfl (by rw [Try.ntmps46]; simp) 0 (by simp) ?_; rw [Try.results46, Try.ntmps46]; simp only [entry, zipArgs, Nat.reduceAdd])
    repeat (first | apply Wp.seq | apply Wp.block | (apply Run.next; (simp only [push_cast, seval, e1] <;> (try simp (disch := omega) only [wI, wU, wC]) <;> exact rfl); (focus ((try simp only [push_cast, seval, e1]) <;> exact sT))) | ((first | apply Run.nil | apply Wp.skip); dsimp only [sQ, tQ, bQ]) | (apply Wp.run; (dsimp only [List.map] <;> exact rfl); exact rfl) | (apply Wp.exit; dsimp only [sQ, tQ, bQ]; simp only [reduceIte]) | (apply Run.gtrue; (simp only [push_cast, seval, e1] <;> (try simp (disch := omega) only [wI, wU, wC]) <;> exact rfl); (simp only [push_cast, seval, e1] <;> (try simp (disch := omega) only [wI, wU, wC]) <;> exact rfl)) | (apply Run.gfalse (.bool false); (simp only [push_cast, seval, e1] <;> (try simp (disch := omega) only [wI, wU, wC]) <;> exact rfl); dsimp only [S.put, optG]) | (apply Wp.condT; (simp only [push_cast, seval, e1] <;> (try simp (disch := omega) only [wI, wU, wC]) <;> exact rfl)) | (apply Wp.condF; (simp only [push_cast, seval, e1] <;> (try simp (disch := omega) only [wI, wU, wC]) <;> exact rfl)))
    (apply Wp.ret; (try dsimp only [sQ, tQ, bQ]); apply leave0; exact rfl; (simp only [push_cast, seval, e1] <;> (try simp (disch := omega) only [wI, wU, wC]) <;> exact rfl); all_goals (try simp only [push_cast, seval, e1]); (try rfl))
  · have e1 : decide (200 < max (b.size : Int) (p.size : Int)) = false := decide_eq_false h1
    rw [if_neg h1, if_neg h1]
    (refine Spec.of_body Try.func46 rfl (by rw [Try.ntmps46]; simp) 0 (by simp) ?_; rw [Try.results46, Try.ntmps46]; simp only [entry, zipArgs, Nat.reduceAdd])
    repeat (first | apply Wp.seq | apply Wp.block | (apply Run.next; (simp only [push_cast, seval, e1] <;> (try simp (disch := omega) only [wI, wU, wC]) <;> exact rfl); (focus ((try simp only [push_cast, seval, e1]) <;> exact sT))) | ((first | apply Run.nil | apply Wp.skip); dsimp only [sQ, tQ, bQ]) | (apply Wp.run; (dsimp only [List.map] <;> exact rfl); exact rfl) | (apply Wp.exit; dsimp only [sQ, tQ, bQ]; simp only [reduceIte]) | (apply Run.gtrue; (simp only [push_cast, seval, e1] <;> (try simp (disch := omega) only [wI, wU, wC]) <;> exact rfl); (simp only [push_cast, seval, e1] <;> (try simp (disch := omega) only [wI, wU, wC]) <;> exact rfl)) | (apply Run.gfalse (.bool false); (simp only [push_cast, seval, e1] <;> (try simp (disch := omega) only [wI, wU, wC]) <;> exact rfl); dsimp only [S.put, optG]) | (apply Wp.condT; (simp only [push_cast, seval, e1] <;> (try simp (disch := omega) only [wI, wU, wC]) <;> exact rfl)) | (apply Wp.condF; (simp only [push_cast, seval, e1] <;> (try simp (disch := omega) only [wI, wU, wC]) <;> exact rfl)))
    apply Wp.adopt 4 1; (simp only [push_cast, seval, e1] <;> (try simp (disch := omega) only [wI, wU, wC]) <;> exact rfl)
    refine Wp.loop (fun k : Nat => { t := [(0, .str b), (1, .str p), (4, .osl 0 (crkL b p k).length 0 (crkL b p k).length), (13, .int k)], m := [⟨(crkL b p k).length, .row 1 ((crkL b p k).map AV.int)⟩], n := 27 }) (fun k => k ≤ 26) (fun k => 26 - k) 0 ?_ ?_ ?_
    · (refine Le.of ?_ ?_ rfl rfl <;> (try simp only [push_cast, seval, e1]) <;> (try (with_reducible rfl)))
      all_goals rfl
    · omega
    · intro k hk
      have hln := crkL_len b p k
      have hsu := crkL_succ b p k
      by_cases hkb : k < 26
      · have e2 : decide ((k : Int) < 26) = true := decide_eq_true (by omega)
        have hs := shift_pure b (k : Int) (by omega) (by omega)
        have hc := contains_pure (shiftB b (k : Int)) p (by rw [shiftB_size]; omega)
        generalize hG : crkL b p k = G at hln hsu
        generalize shiftB b (k : Int) = sb at hs hc hsu
        cases hcc : Lib.contains sb.data.toList p.data.toList with
        | true =>
          rw [hcc] at hc
          rw [hcc, if_pos rfl] at hsu
          repeat (first | apply Wp.seq | apply Wp.block | (apply Run.next; (simp only [push_cast, seval, e1, e2, List.length_map] <;> (try simp (disch := omega) only [wI, wU, wC]) <;> exact rfl); (focus ((try simp only [push_cast, seval, e1, e2, List.length_map]) <;> exact sT))) | ((first | apply Run.nil | apply Wp.skip); dsimp only [sQ, tQ, bQ]) | (apply Wp.run; (dsimp only [List.map] <;> exact rfl); exact rfl) | (apply Wp.exit; dsimp only [sQ, tQ, bQ]; simp only [reduceIte]) | (apply Run.gtrue; (simp only [push_cast, seval, e1, e2, List.length_map] <;> (try simp (disch := omega) only [wI, wU, wC]) <;> exact rfl); (simp only [push_cast, seval, e1, e2, List.length_map] <;> (try simp (disch := omega) only [wI, wU, wC]) <;> exact rfl)) | (apply Run.gfalse (.bool false); (simp only [push_cast, seval, e1, e2, List.length_map] <;> (try simp (disch := omega) only [wI, wU, wC]) <;> exact rfl); dsimp only [S.put, optG]) | (apply Wp.condT; (simp only [push_cast, seval, e1, e2, List.length_map] <;> (try simp (disch := omega) only [wI, wU, wC]) <;> exact rfl)) | (apply Wp.condF; (simp only [push_cast, seval, e1, e2, List.length_map] <;> (try simp (disch := omega) only [wI, wU, wC]) <;> exact rfl)))
          (apply Run.pureP; (simp only [push_cast, seval, e1, e2, List.length_map] <;> (try simp (disch := omega) only [wI, wU, wC]) <;> exact rfl); (exact (Enters.of Try.func86 rfl rfl)); (exact hs); (focus (simp only [push_cast, seval, e1, e2, List.length_map] <;> first | trivial | assumption | (refine ⟨?_, ?_⟩ <;> assumption) | (simp; done))); (try dsimp only [putA, optG]))
          repeat (first | apply Wp.seq | apply Wp.block | (apply Run.next; (simp only [push_cast, seval, e1, e2, List.length_map] <;> (try simp (disch := omega) only [wI, wU, wC]) <;> exact rfl); (focus ((try simp only [push_cast, seval, e1, e2, List.length_map]) <;> exact sT))) | ((first | apply Run.nil | apply Wp.skip); dsimp only [sQ, tQ, bQ]) | (apply Wp.run; (dsimp only [List.map] <;> exact rfl); exact rfl) | (apply Wp.exit; dsimp only [sQ, tQ, bQ]; simp only [reduceIte]) | (apply Run.gtrue; (simp only [push_cast, seval, e1, e2, List.length_map] <;> (try simp (disch := omega) only [wI, wU, wC]) <;> exact rfl); (simp only [push_cast, seval, e1, e2, List.length_map] <;> (try simp (disch := omega) only [wI, wU, wC]) <;> exact rfl)) | (apply Run.gfalse (.bool false); (simp only [push_cast, seval, e1, e2, List.length_map] <;> (try simp (disch := omega) only [wI, wU, wC]) <;> exact rfl); dsimp only [S.put, optG]) | (apply Wp.condT; (simp only [push_cast, seval, e1, e2, List.length_map] <;> (try simp (disch := omega) only [wI, wU, wC]) <;> exact rfl)) | (apply Wp.condF; (simp only [push_cast, seval, e1, e2, List.length_map] <;> (try simp (disch := omega) only [wI, wU, wC]) <;> exact rfl)))
          (apply Run.pureP; (simp only [push_cast, seval, e1, e2, List.length_map] <;> (try simp (disch := omega) only [wI, wU, wC]) <;> exact rfl); (exact (Enters.of Try.func93 rfl rfl)); (exact hc); (focus (simp only [push_cast, seval, e1, e2, List.length_map] <;> first | trivial | assumption | (refine ⟨?_, ?_⟩ <;> assumption) | (simp; done))); (try dsimp only [putA, optG]))
          repeat (first | apply Wp.seq | apply Wp.block | (apply Run.next; (simp only [push_cast, seval, e1, e2, List.length_map] <;> (try simp (disch := omega) only [wI, wU, wC]) <;> exact rfl); (focus ((try simp only [push_cast, seval, e1, e2, List.length_map]) <;> exact sT))) | ((first | apply Run.nil | apply Wp.skip); dsimp only [sQ, tQ, bQ]) | (apply Wp.run; (dsimp only [List.map] <;> exact rfl); exact rfl) | (apply Wp.exit; dsimp only [sQ, tQ, bQ]; simp only [reduceIte]) | (apply Run.gtrue; (simp only [push_cast, seval, e1, e2, List.length_map] <;> (try simp (disch := omega) only [wI, wU, wC]) <;> exact rfl); (simp only [push_cast, seval, e1, e2, List.length_map] <;> (try simp (disch := omega) only [wI, wU, wC]) <;> exact rfl)) | (apply Run.gfalse (.bool false); (simp only [push_cast, seval, e1, e2, List.length_map] <;> (try simp (disch := omega) only [wI, wU, wC]) <;> exact rfl); dsimp only [S.put, optG]) | (apply Wp.condT; (simp only [push_cast, seval, e1, e2, List.length_map] <;> (try simp (disch := omega) only [wI, wU, wC]) <;> exact rfl)) | (apply Wp.condF; (simp only [push_cast, seval, e1, e2, List.length_map] <;> (try simp (disch := omega) only [wI, wU, wC]) <;> exact rfl)))
          refine ⟨k + 1, ?_, by omega, by omega⟩
          rw [hsu]
          (refine Le.of ?_ ?_ rfl rfl <;> (try simp only [push_cast, seval, e1, e2, List.length_map]) <;> (try (with_reducible rfl)))
          all_goals rw [List.length_append]
          all_goals rfl
        | false =>
          rw [hcc] at hc
          rw [hcc, if_neg (by simp)] at hsu
          repeat (first | apply Wp.seq | apply Wp.block | (apply Run.next; (simp only [push_cast, seval, e1, e2, List.length_map] <;> (try simp (disch := omega) only [wI, wU, wC]) <;> exact rfl); (focus ((try simp only [push_cast, seval, e1, e2, List.length_map]) <;> exact sT))) | ((first | apply Run.nil | apply Wp.skip); dsimp only [sQ, tQ, bQ]) | (apply Wp.run; (dsimp only [List.map] <;> exact rfl); exact rfl) | (apply Wp.exit; dsimp only [sQ, tQ, bQ]; simp only [reduceIte]) | (apply Run.gtrue; (simp only [push_cast, seval, e1, e2, List.length_map] <;> (try simp (disch := omega) only [wI, wU, wC]) <;> exact rfl); (simp only [push_cast, seval, e1, e2, List.length_map] <;> (try simp (disch := omega) only [wI, wU, wC]) <;> exact rfl)) | (apply Run.gfalse (.bool false); (simp only [push_cast, seval, e1, e2, List.length_map] <;> (try simp (disch := omega) only [wI, wU, wC]) <;> exact rfl); dsimp only [S.put, optG]) | (apply Wp.condT; (simp only [push_cast, seval, e1, e2, List.length_map] <;> (try simp (disch := omega) only [wI, wU, wC]) <;> exact rfl)) | (apply Wp.condF; (simp only [push_cast, seval, e1, e2, List.length_map] <;> (try simp (disch := omega) only [wI, wU, wC]) <;> exact rfl)))
          (apply Run.pureP; (simp only [push_cast, seval, e1, e2, List.length_map] <;> (try simp (disch := omega) only [wI, wU, wC]) <;> exact rfl); (exact (Enters.of Try.func86 rfl rfl)); (exact hs); (focus (simp only [push_cast, seval, e1, e2, List.length_map] <;> first | trivial | assumption | (refine ⟨?_, ?_⟩ <;> assumption) | (simp; done))); (try dsimp only [putA, optG]))
          repeat (first | apply Wp.seq | apply Wp.block | (apply Run.next; (simp only [push_cast, seval, e1, e2, List.length_map] <;> (try simp (disch := omega) only [wI, wU, wC]) <;> exact rfl); (focus ((try simp only [push_cast, seval, e1, e2, List.length_map]) <;> exact sT))) | ((first | apply Run.nil | apply Wp.skip); dsimp only [sQ, tQ, bQ]) | (apply Wp.run; (dsimp only [List.map] <;> exact rfl); exact rfl) | (apply Wp.exit; dsimp only [sQ, tQ, bQ]; simp only [reduceIte]) | (apply Run.gtrue; (simp only [push_cast, seval, e1, e2, List.length_map] <;> (try simp (disch := omega) only [wI, wU, wC]) <;> exact rfl); (simp only [push_cast, seval, e1, e2, List.length_map] <;> (try simp (disch := omega) only [wI, wU, wC]) <;> exact rfl)) | (apply Run.gfalse (.bool false); (simp only [push_cast, seval, e1, e2, List.length_map] <;> (try simp (disch := omega) only [wI, wU, wC]) <;> exact rfl); dsimp only [S.put, optG]) | (apply Wp.condT; (simp only [push_cast, seval, e1, e2, List.length_map] <;> (try simp (disch := omega) only [wI, wU, wC]) <;> exact rfl)) | (apply Wp.condF; (simp only [push_cast, seval, e1, e2, List.length_map] <;> (try simp (disch := omega) only [wI, wU, wC]) <;> exact rfl)))
          (apply Run.pureP; (simp only [push_cast, seval, e1, e2, List.length_map] <;> (try simp (disch := omega) only [wI, wU, wC]) <;> exact rfl); (exact (Enters.of Try.func93 rfl rfl)); (exact hc); (focus (simp only [push_cast, seval, e1, e2, List.length_map] <;> first | trivial | assumption | (refine ⟨?_, ?_⟩ <;> assumption) | (simp; done))); (try dsimp only [putA, optG]))
          repeat (first | apply Wp.seq | apply Wp.block | (apply Run.next; (simp only [push_cast, seval, e1, e2, List.length_map] <;> (try simp (disch := omega) only [wI, wU, wC]) <;> exact rfl); (focus ((try simp only [push_cast, seval, e1, e2, List.length_map]) <;> exact sT))) | ((first | apply Run.nil | apply Wp.skip); dsimp only [sQ, tQ, bQ]) | (apply Wp.run; (dsimp only [List.map] <;> exact rfl); exact rfl) | (apply Wp.exit; dsimp only [sQ, tQ, bQ]; simp only [reduceIte]) | (apply Run.gtrue; (simp only [push_cast, seval, e1, e2, List.length_map] <;> (try simp (disch := omega) only [wI, wU, wC]) <;> exact rfl); (simp only [push_cast, seval, e1, e2, List.length_map] <;> (try simp (disch := omega) only [wI, wU, wC]) <;> exact rfl)) | (apply Run.gfalse (.bool false); (simp only [push_cast, seval, e1, e2, List.length_map] <;> (try simp (disch := omega) only [wI, wU, wC]) <;> exact rfl); dsimp only [S.put, optG]) | (apply Wp.condT; (simp only [push_cast, seval, e1, e2, List.length_map] <;> (try simp (disch := omega) only [wI, wU, wC]) <;> exact rfl)) | (apply Wp.condF; (simp only [push_cast, seval, e1, e2, List.length_map] <;> (try simp (disch := omega) only [wI, wU, wC]) <;> exact rfl)))
          refine ⟨k + 1, ?_, by omega, by omega⟩
          rw [hsu]
          (refine Le.of ?_ ?_ rfl rfl <;> (try simp only [push_cast, seval, e1, e2, List.length_map]) <;> (try (with_reducible rfl)))
      · obtain rfl : k = 26 := by omega
        have e2 : decide ((26 : Int) < 26) = false := rfl
        have e3 : decide (((26 : Nat) : Int) < 26) = false := rfl
        (apply Wp.freeze 4; (simp only [push_cast, seval, e1, e2, e3, List.length_map] <;> (try simp (disch := omega) only [wI, wU, wC]) <;> exact rfl); (simp only [push_cast, seval, e1, e2, e3, List.length_map] <;> (try simp (disch := omega) only [wI, wU, wC]) <;> exact rfl); (focus (try simp only [push_cast, seval, e1, e2, e3, List.length_map]); (try (exact sT))); (focus (exact sT)))
        repeat (first | apply Wp.seq | apply Wp.block | (apply Run.next; (simp only [push_cast, seval, e1, e2, e3, List.length_map] <;> (try simp (disch := omega) only [wI, wU, wC]) <;> exact rfl); (focus ((try simp only [push_cast, seval, e1, e2, e3, List.length_map]) <;> exact sT))) | ((first | apply Run.nil | apply Wp.skip); dsimp only [sQ, tQ, bQ]) | (apply Wp.run; (dsimp only [List.map] <;> exact rfl); exact rfl) | (apply Wp.exit; dsimp only [sQ, tQ, bQ]; simp only [reduceIte]) | (apply Run.gtrue; (simp only [push_cast, seval, e1, e2, e3, List.length_map] <;> (try simp (disch := omega) only [wI, wU, wC]) <;> exact rfl); (simp only [push_cast, seval, e1, e2, e3, List.length_map] <;> (try simp (disch := omega) only [wI, wU, wC]) <;> exact rfl)) | (apply Run.gfalse (.bool false); (simp only [push_cast, seval, e1, e2, e3, List.length_map] <;> (try simp (disch := omega) only [wI, wU, wC]) <;> exact rfl); dsimp only [S.put, optG]) | (apply Wp.condT; (simp only [push_cast, seval, e1, e2, e3, List.length_map] <;> (try simp (disch := omega) only [wI, wU, wC]) <;> exact rfl)) | (apply Wp.condF; (simp only [push_cast, seval, e1, e2, e3, List.length_map] <;> (try simp (disch := omega) only [wI, wU, wC]) <;> exact rfl)))
        (apply Wp.ret; (try dsimp only [sQ, tQ, bQ]); apply leave0; exact rfl; (simp only [push_cast, seval, e1, e2, e3, List.length_map] <;> (try simp (disch := omega) only [wI, wU, wC]) <;> exact rfl); all_goals (try simp only [push_cast, seval, e1, e2, e3, List.length_map]); (try rfl))
theorem rCrack_pure (b p : ByteArray) : Pure Try.prog 47 [.str b, .str p] (.tup [crkA b p, .int (crkE b p)]) := by
  unfold crkA crkE
  by_cases h1 : 200 < max (b.size : Int) (p.size : Int)
  · rw [if_pos h1, if_pos h1]
    by_cases h2 : 200 < (b.size : Int)
    · have e1 : decide (200 < (b.size : Int)) = true := decide_eq_true h2
      (refine Spec.of_body Try.func47 rfl (by rw [Try.ntmps47]; simp) 0 (by simp) ?_; rw [Try.results47, Try.ntmps47]; simp only [entry, zipArgs, Nat.reduceAdd])
      repeat (first | apply Wp.seq | apply Wp.block | (apply Run.next; (simp only [push_cast, seval, e1] <;> (try simp (disch := omega) only [wI, wU, wC]) <;> exact rfl); (focus ((try simp only [push_cast, seval, e1]) <;> exact sT))) | ((first | apply Run.nil | apply Wp.skip); dsimp only [sQ, tQ, bQ]) | (apply Wp.run; (dsimp only [List.map] <;> exact rfl); exact rfl) | (apply Wp.exit; dsimp only [sQ, tQ, bQ]; simp only [reduceIte]) | (apply Run.gtrue; (simp only [push_cast, seval, e1] <;> (try simp (disch := omega) only [wI, wU, wC]) <;> exact rfl); (simp only [push_cast, seval, e1] <;> (try simp (disch := omega) only [wI, wU, wC]) <;> exact rfl)) | (apply Run.gfalse (.bool false); (simp only [push_cast, seval, e1] <;> (try simp (disch := omega) only [wI, wU, wC]) <;> exact rfl); dsimp only [S.put, optG]) | (apply Wp.condT; (simp only [push_cast, seval, e1] <;> (try simp (disch := omega) only [wI, wU, wC]) <;> exact rfl)) | (apply Wp.condF; (simp only [push_cast, seval, e1] <;> (try simp (disch := omega) only [wI, wU, wC]) <;> exact rfl)))
      (apply Wp.ret; (try dsimp only [sQ, tQ, bQ]); apply leave0; exact rfl; (simp only [push_cast, seval, e1] <;> (try simp (disch := omega) only [wI, wU, wC]) <;> exact rfl); all_goals (try simp only [push_cast, seval, e1]); (try rfl))
    · have e1 : decide (200 < (b.size : Int)) = false := decide_eq_false h2
      have e2 : decide (200 < (p.size : Int)) = true := decide_eq_true (by omega)
      (refine Spec.of_body Try.func47 rfl (by rw [Try.ntmps47]; simp) 0 (by simp) ?_; rw [Try.results47, Try.ntmps47]; simp only [entry, zipArgs, Nat.reduceAdd])
      repeat (first | apply Wp.seq | apply Wp.block | (apply Run.next; (simp only [push_cast, seval, e1, e2] <;> (try simp (disch := omega) only [wI, wU, wC]) <;> exact rfl); (focus ((try simp only [push_cast, seval, e1, e2]) <;> exact sT))) | ((first | apply Run.nil | apply Wp.skip); dsimp only [sQ, tQ, bQ]) | (apply Wp.run; (dsimp only [List.map] <;> exact rfl); exact rfl) | (apply Wp.exit; dsimp only [sQ, tQ, bQ]; simp only [reduceIte]) | (apply Run.gtrue; (simp only [push_cast, seval, e1, e2] <;> (try simp (disch := omega) only [wI, wU, wC]) <;> exact rfl); (simp only [push_cast, seval, e1, e2] <;> (try simp (disch := omega) only [wI, wU, wC]) <;> exact rfl)) | (apply Run.gfalse (.bool false); (simp only [push_cast, seval, e1, e2] <;> (try simp (disch := omega) only [wI, wU, wC]) <;> exact rfl); dsimp only [S.put, optG]) | (apply Wp.condT; (simp only [push_cast, seval, e1, e2] <;> (try simp (disch := omega) only [wI, wU, wC]) <;> exact rfl)) | (apply Wp.condF; (simp only [push_cast, seval, e1, e2] <;> (try simp (disch := omega) only [wI, wU, wC]) <;> exact rfl)))
      (apply Wp.ret; (try dsimp only [sQ, tQ, bQ]); apply leave0; exact rfl; (simp only [push_cast, seval, e1, e2] <;> (try simp (disch := omega) only [wI, wU, wC]) <;> exact rfl); all_goals (try simp only [push_cast, seval, e1, e2]); (try rfl))
  · have e1 : decide (200 < (b.size : Int)) = false := decide_eq_false (by omega)
    have e0 : decide (200 < (p.size : Int)) = false := decide_eq_false (by omega)
    rw [if_neg h1, if_neg h1]
    (refine Spec.of_body Try.func47 rfl (by rw [Try.ntmps47]; simp) 0 (by simp) ?_; rw [Try.results47, Try.ntmps47]; simp only [entry, zipArgs, Nat.reduceAdd])
    repeat (first | apply Wp.seq | apply Wp.block | (apply Run.next; (simp only [push_cast, seval, e1, e0] <;> (try simp (disch := omega) only [wI, wU, wC]) <;> exact rfl); (focus ((try simp only [push_cast, seval, e1, e0]) <;> exact sT))) | ((first | apply Run.nil | apply Wp.skip); dsimp only [sQ, tQ, bQ]) | (apply Wp.run; (dsimp only [List.map] <;> exact rfl); exact rfl) | (apply Wp.exit; dsimp only [sQ, tQ, bQ]; simp only [reduceIte]) | (apply Run.gtrue; (simp only [push_cast, seval, e1, e0] <;> (try simp (disch := omega) only [wI, wU, wC]) <;> exact rfl); (simp only [push_cast, seval, e1, e0] <;> (try simp (disch := omega) only [wI, wU, wC]) <;> exact rfl)) | (apply Run.gfalse (.bool false); (simp only [push_cast, seval, e1, e0] <;> (try simp (disch := omega) only [wI, wU, wC]) <;> exact rfl); dsimp only [S.put, optG]) | (apply Wp.condT; (simp only [push_cast, seval, e1, e0] <;> (try simp (disch := omega) only [wI, wU, wC]) <;> exact rfl)) | (apply Wp.condF; (simp only [push_cast, seval, e1, e0] <;> (try simp (disch := omega) only [wI, wU, wC]) <;> exact rfl)))
    apply Wp.adopt 6 1; (simp only [push_cast, seval, e1, e0] <;> (try simp (disch := omega) only [wI, wU, wC]) <;> exact rfl)
    refine Wp.loop (fun k : Nat => { t := [(0, .str b), (1, .str p), (6, .osl 0 (crkL b p k).length 0 (crkL b p k).length), (7, .int k)], m := [⟨(crkL b p k).length, .row 1 ((crkL b p k).map AV.int)⟩], n := 30 }) (fun k => k ≤ 26) (fun k => 26 - k) 0 ?_ ?_ ?_
    · (refine Le.of ?_ ?_ rfl rfl <;> (try simp only [push_cast, seval, e1, e0]) <;> (try (with_reducible rfl)))
      all_goals rfl
    · omega
    · intro k hk
      have hln := crkL_len b p k
      have hsu := crkL_succ b p k
      by_cases hkb : k < 26
      · have e2 : decide ((k : Int) < 26) = true := decide_eq_true (by omega)
        have hs := rshift_pure b (k : Int) (by omega) (by omega)
        have hc := rcontains_pure (shiftB b (k : Int)) p (by rw [shiftB_size]; omega) (by omega)
        generalize hG : crkL b p k = G at hln hsu
        generalize shiftB b (k : Int) = sb at hs hc hsu
        cases hcc : Lib.contains sb.data.toList p.data.toList with
        | true =>
          rw [hcc] at hc
          rw [hcc, if_pos rfl] at hsu
          repeat (first | apply Wp.seq | apply Wp.block | (apply Run.next; (simp only [push_cast, seval, e1, e0, e2, List.length_map] <;> (try simp (disch := omega) only [wI, wU, wC]) <;> exact rfl); (focus ((try simp only [push_cast, seval, e1, e0, e2, List.length_map]) <;> exact sT))) | ((first | apply Run.nil | apply Wp.skip); dsimp only [sQ, tQ, bQ]) | (apply Wp.run; (dsimp only [List.map] <;> exact rfl); exact rfl) | (apply Wp.exit; dsimp only [sQ, tQ, bQ]; simp only [reduceIte]) | (apply Run.gtrue; (simp only [push_cast, seval, e1, e0, e2, List.length_map] <;> (try simp (disch := omega) only [wI, wU, wC]) <;> exact rfl); (simp only [push_cast, seval, e1, e0, e2, List.length_map] <;> (try simp (disch := omega) only [wI, wU, wC]) <;> exact rfl)) | (apply Run.gfalse (.bool false); (simp only [push_cast, seval, e1, e0, e2, List.length_map] <;> (try simp (disch := omega) only [wI, wU, wC]) <;> exact rfl); dsimp only [S.put, optG]) | (apply Wp.condT; (simp only [push_cast, seval, e1, e0, e2, List.length_map] <;> (try simp (disch := omega) only [wI, wU, wC]) <;> exact rfl)) | (apply Wp.condF; (simp only [push_cast, seval, e1, e0, e2, List.length_map] <;> (try simp (disch := omega) only [wI, wU, wC]) <;> exact rfl)))
          (apply Run.pureP; (simp only [push_cast, seval, e1, e0, e2, List.length_map] <;> (try simp (disch := omega) only [wI, wU, wC]) <;> exact rfl); (exact (Enters.of Try.func87 rfl rfl)); (exact hs); (focus (simp only [push_cast, seval, e1, e0, e2, List.length_map] <;> first | trivial | assumption | (refine ⟨?_, ?_⟩ <;> assumption) | (simp; done))); (try dsimp only [putA, optG]))
          repeat (first | apply Wp.seq | apply Wp.block | (apply Run.next; (simp only [push_cast, seval, e1, e0, e2, List.length_map] <;> (try simp (disch := omega) only [wI, wU, wC]) <;> exact rfl); (focus ((try simp only [push_cast, seval, e1, e0, e2, List.length_map]) <;> exact sT))) | ((first | apply Run.nil | apply Wp.skip); dsimp only [sQ, tQ, bQ]) | (apply Wp.run; (dsimp only [List.map] <;> exact rfl); exact rfl) | (apply Wp.exit; dsimp only [sQ, tQ, bQ]; simp only [reduceIte]) | (apply Run.gtrue; (simp only [push_cast, seval, e1, e0, e2, List.length_map] <;> (try simp (disch := omega) only [wI, wU, wC]) <;> exact rfl); (simp only [push_cast, seval, e1, e0, e2, List.length_map] <;> (try simp (disch := omega) only [wI, wU, wC]) <;> exact rfl)) | (apply Run.gfalse (.bool false); (simp only [push_cast, seval, e1, e0, e2, List.length_map] <;> (try simp (disch := omega) only [wI, wU, wC]) <;> exact rfl); dsimp only [S.put, optG]) | (apply Wp.condT; (simp only [push_cast, seval, e1, e0, e2, List.length_map] <;> (try simp (disch := omega) only [wI, wU, wC]) <;> exact rfl)) | (apply Wp.condF; (simp only [push_cast, seval, e1, e0, e2, List.length_map] <;> (try simp (disch := omega) only [wI, wU, wC]) <;> exact rfl)))
          (apply Run.pureP; (simp only [push_cast, seval, e1, e0, e2, List.length_map] <;> (try simp (disch := omega) only [wI, wU, wC]) <;> exact rfl); (exact (Enters.of Try.func94 rfl rfl)); (exact hc); (focus (simp only [push_cast, seval, e1, e0, e2, List.length_map] <;> first | trivial | assumption | (refine ⟨?_, ?_⟩ <;> assumption) | (simp; done))); (try dsimp only [putA, optG]))
          repeat (first | apply Wp.seq | apply Wp.block | (apply Run.next; (simp only [push_cast, seval, e1, e0, e2, List.length_map] <;> (try simp (disch := omega) only [wI, wU, wC]) <;> exact rfl); (focus ((try simp only [push_cast, seval, e1, e0, e2, List.length_map]) <;> exact sT))) | ((first | apply Run.nil | apply Wp.skip); dsimp only [sQ, tQ, bQ]) | (apply Wp.run; (dsimp only [List.map] <;> exact rfl); exact rfl) | (apply Wp.exit; dsimp only [sQ, tQ, bQ]; simp only [reduceIte]) | (apply Run.gtrue; (simp only [push_cast, seval, e1, e0, e2, List.length_map] <;> (try simp (disch := omega) only [wI, wU, wC]) <;> exact rfl); (simp only [push_cast, seval, e1, e0, e2, List.length_map] <;> (try simp (disch := omega) only [wI, wU, wC]) <;> exact rfl)) | (apply Run.gfalse (.bool false); (simp only [push_cast, seval, e1, e0, e2, List.length_map] <;> (try simp (disch := omega) only [wI, wU, wC]) <;> exact rfl); dsimp only [S.put, optG]) | (apply Wp.condT; (simp only [push_cast, seval, e1, e0, e2, List.length_map] <;> (try simp (disch := omega) only [wI, wU, wC]) <;> exact rfl)) | (apply Wp.condF; (simp only [push_cast, seval, e1, e0, e2, List.length_map] <;> (try simp (disch := omega) only [wI, wU, wC]) <;> exact rfl)))
          refine ⟨k + 1, ?_, by omega, by omega⟩
          rw [hsu]
          (refine Le.of ?_ ?_ rfl rfl <;> (try simp only [push_cast, seval, e1, e0, e2, List.length_map]) <;> (try (with_reducible rfl)))
          all_goals rw [List.length_append]
          all_goals rfl
        | false =>
          rw [hcc] at hc
          rw [hcc, if_neg (by simp)] at hsu
          repeat (first | apply Wp.seq | apply Wp.block | (apply Run.next; (simp only [push_cast, seval, e1, e0, e2, List.length_map] <;> (try simp (disch := omega) only [wI, wU, wC]) <;> exact rfl); (focus ((try simp only [push_cast, seval, e1, e0, e2, List.length_map]) <;> exact sT))) | ((first | apply Run.nil | apply Wp.skip); dsimp only [sQ, tQ, bQ]) | (apply Wp.run; (dsimp only [List.map] <;> exact rfl); exact rfl) | (apply Wp.exit; dsimp only [sQ, tQ, bQ]; simp only [reduceIte]) | (apply Run.gtrue; (simp only [push_cast, seval, e1, e0, e2, List.length_map] <;> (try simp (disch := omega) only [wI, wU, wC]) <;> exact rfl); (simp only [push_cast, seval, e1, e0, e2, List.length_map] <;> (try simp (disch := omega) only [wI, wU, wC]) <;> exact rfl)) | (apply Run.gfalse (.bool false); (simp only [push_cast, seval, e1, e0, e2, List.length_map] <;> (try simp (disch := omega) only [wI, wU, wC]) <;> exact rfl); dsimp only [S.put, optG]) | (apply Wp.condT; (simp only [push_cast, seval, e1, e0, e2, List.length_map] <;> (try simp (disch := omega) only [wI, wU, wC]) <;> exact rfl)) | (apply Wp.condF; (simp only [push_cast, seval, e1, e0, e2, List.length_map] <;> (try simp (disch := omega) only [wI, wU, wC]) <;> exact rfl)))
          (apply Run.pureP; (simp only [push_cast, seval, e1, e0, e2, List.length_map] <;> (try simp (disch := omega) only [wI, wU, wC]) <;> exact rfl); (exact (Enters.of Try.func87 rfl rfl)); (exact hs); (focus (simp only [push_cast, seval, e1, e0, e2, List.length_map] <;> first | trivial | assumption | (refine ⟨?_, ?_⟩ <;> assumption) | (simp; done))); (try dsimp only [putA, optG]))
          repeat (first | apply Wp.seq | apply Wp.block | (apply Run.next; (simp only [push_cast, seval, e1, e0, e2, List.length_map] <;> (try simp (disch := omega) only [wI, wU, wC]) <;> exact rfl); (focus ((try simp only [push_cast, seval, e1, e0, e2, List.length_map]) <;> exact sT))) | ((first | apply Run.nil | apply Wp.skip); dsimp only [sQ, tQ, bQ]) | (apply Wp.run; (dsimp only [List.map] <;> exact rfl); exact rfl) | (apply Wp.exit; dsimp only [sQ, tQ, bQ]; simp only [reduceIte]) | (apply Run.gtrue; (simp only [push_cast, seval, e1, e0, e2, List.length_map] <;> (try simp (disch := omega) only [wI, wU, wC]) <;> exact rfl); (simp only [push_cast, seval, e1, e0, e2, List.length_map] <;> (try simp (disch := omega) only [wI, wU, wC]) <;> exact rfl)) | (apply Run.gfalse (.bool false); (simp only [push_cast, seval, e1, e0, e2, List.length_map] <;> (try simp (disch := omega) only [wI, wU, wC]) <;> exact rfl); dsimp only [S.put, optG]) | (apply Wp.condT; (simp only [push_cast, seval, e1, e0, e2, List.length_map] <;> (try simp (disch := omega) only [wI, wU, wC]) <;> exact rfl)) | (apply Wp.condF; (simp only [push_cast, seval, e1, e0, e2, List.length_map] <;> (try simp (disch := omega) only [wI, wU, wC]) <;> exact rfl)))
          (apply Run.pureP; (simp only [push_cast, seval, e1, e0, e2, List.length_map] <;> (try simp (disch := omega) only [wI, wU, wC]) <;> exact rfl); (exact (Enters.of Try.func94 rfl rfl)); (exact hc); (focus (simp only [push_cast, seval, e1, e0, e2, List.length_map] <;> first | trivial | assumption | (refine ⟨?_, ?_⟩ <;> assumption) | (simp; done))); (try dsimp only [putA, optG]))
          repeat (first | apply Wp.seq | apply Wp.block | (apply Run.next; (simp only [push_cast, seval, e1, e0, e2, List.length_map] <;> (try simp (disch := omega) only [wI, wU, wC]) <;> exact rfl); (focus ((try simp only [push_cast, seval, e1, e0, e2, List.length_map]) <;> exact sT))) | ((first | apply Run.nil | apply Wp.skip); dsimp only [sQ, tQ, bQ]) | (apply Wp.run; (dsimp only [List.map] <;> exact rfl); exact rfl) | (apply Wp.exit; dsimp only [sQ, tQ, bQ]; simp only [reduceIte]) | (apply Run.gtrue; (simp only [push_cast, seval, e1, e0, e2, List.length_map] <;> (try simp (disch := omega) only [wI, wU, wC]) <;> exact rfl); (simp only [push_cast, seval, e1, e0, e2, List.length_map] <;> (try simp (disch := omega) only [wI, wU, wC]) <;> exact rfl)) | (apply Run.gfalse (.bool false); (simp only [push_cast, seval, e1, e0, e2, List.length_map] <;> (try simp (disch := omega) only [wI, wU, wC]) <;> exact rfl); dsimp only [S.put, optG]) | (apply Wp.condT; (simp only [push_cast, seval, e1, e0, e2, List.length_map] <;> (try simp (disch := omega) only [wI, wU, wC]) <;> exact rfl)) | (apply Wp.condF; (simp only [push_cast, seval, e1, e0, e2, List.length_map] <;> (try simp (disch := omega) only [wI, wU, wC]) <;> exact rfl)))
          refine ⟨k + 1, ?_, by omega, by omega⟩
          rw [hsu]
          (refine Le.of ?_ ?_ rfl rfl <;> (try simp only [push_cast, seval, e1, e0, e2, List.length_map]) <;> (try (with_reducible rfl)))
      · obtain rfl : k = 26 := by omega
        have e2 : decide ((26 : Int) < 26) = false := rfl
        have e3 : decide (((26 : Nat) : Int) < 26) = false := rfl
        (apply Wp.freeze 6; (simp only [push_cast, seval, e1, e0, e2, e3, List.length_map] <;> (try simp (disch := omega) only [wI, wU, wC]) <;> exact rfl); (simp only [push_cast, seval, e1, e0, e2, e3, List.length_map] <;> (try simp (disch := omega) only [wI, wU, wC]) <;> exact rfl); (focus (try simp only [push_cast, seval, e1, e0, e2, e3, List.length_map]); (try (exact sT))); (focus (exact sT)))
        repeat (first | apply Wp.seq | apply Wp.block | (apply Run.next; (simp only [push_cast, seval, e1, e0, e2, e3, List.length_map] <;> (try simp (disch := omega) only [wI, wU, wC]) <;> exact rfl); (focus ((try simp only [push_cast, seval, e1, e0, e2, e3, List.length_map]) <;> exact sT))) | ((first | apply Run.nil | apply Wp.skip); dsimp only [sQ, tQ, bQ]) | (apply Wp.run; (dsimp only [List.map] <;> exact rfl); exact rfl) | (apply Wp.exit; dsimp only [sQ, tQ, bQ]; simp only [reduceIte]) | (apply Run.gtrue; (simp only [push_cast, seval, e1, e0, e2, e3, List.length_map] <;> (try simp (disch := omega) only [wI, wU, wC]) <;> exact rfl); (simp only [push_cast, seval, e1, e0, e2, e3, List.length_map] <;> (try simp (disch := omega) only [wI, wU, wC]) <;> exact rfl)) | (apply Run.gfalse (.bool false); (simp only [push_cast, seval, e1, e0, e2, e3, List.length_map] <;> (try simp (disch := omega) only [wI, wU, wC]) <;> exact rfl); dsimp only [S.put, optG]) | (apply Wp.condT; (simp only [push_cast, seval, e1, e0, e2, e3, List.length_map] <;> (try simp (disch := omega) only [wI, wU, wC]) <;> exact rfl)) | (apply Wp.condF; (simp only [push_cast, seval, e1, e0, e2, e3, List.length_map] <;> (try simp (disch := omega) only [wI, wU, wC]) <;> exact rfl)))
        (apply Wp.ret; (try dsimp only [sQ, tQ, bQ]); apply leave0; exact rfl; (simp only [push_cast, seval, e1, e0, e2, e3, List.length_map] <;> (try simp (disch := omega) only [wI, wU, wC]) <;> exact rfl); all_goals (try simp only [push_cast, seval, e1, e0, e2, e3, List.length_map]); (try rfl))
end Go.Proofs.Try
