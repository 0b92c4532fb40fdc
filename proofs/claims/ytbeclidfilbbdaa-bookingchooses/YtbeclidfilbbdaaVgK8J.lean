/- A part of the proof of BookingChooses: contracts of functions, with plain laws that they need. -/
import Derived.Test.YtbeclidfilbbdaaVgEa
import Derived.Test.YtbeclidfilbbdaaVgT
import Derived.Test.YtbeclidfilbbdaaVgDm
import Derived.Test.YtbeclidfilbbdaaVgK29J
set_option linter.all false
set_option maxHeartbeats 8000000
namespace Go.Proofs.Try
open Go.Vg

theorem exSoonest_pure : Pure Try.prog 22 [houA exC exM 30, .lst 6 (exL.map bkA), bkA (exb 600)] (.tup [.int 710, .int 0]) := by
  have h1 := begin_pure exC exM 30 exL 1 (by omega) (by simp) (by simp) (by simp)
  rw [exBegin] at h1
  have h2 := exLow_pure
  have h3 := exAdd_pure
  generalize exC = cs at h1 h2 h3
  generalize exM = ms at h1 h2 h3
  generalize hL : (exL ++ [exb 710]) = L2 at h3
  generalize exL = ls at h1 h2 h3
  (refine Spec.of_body Try.func22 rfl (by rw [Try.ntmps22]; simp) 0 (by simp) ?_; rw [Try.results22, Try.ntmps22]; simp only [entry, zipArgs, Nat.reduceAdd])
  repeat (first | apply Wp.seq | apply Wp.block | (apply Run.next; (simp only [push_cast, seval] <;> (try simp (disch := omega) only [wI, wU, wC]) <;> exact rfl); (focus ((try simp only [push_cast, seval]) <;> exact sT))) | ((first | apply Run.nil | apply Wp.skip); dsimp only [sQ, tQ, bQ]) | (apply Wp.run; (dsimp only [List.map] <;> exact rfl); exact rfl) | (apply Wp.exit; dsimp only [sQ, tQ, bQ]; simp only [reduceIte]))
  (apply Run.pureP; (simp only [push_cast, seval] <;> (try simp (disch := omega) only [wI, wU, wC]) <;> exact rfl); (exact (Enters.of Try.func50 rfl rfl)); (exact h1); (focus (simp only [push_cast, seval] <;> first | trivial | assumption | (refine ⟨?_, ?_⟩ <;> assumption) | (simp; done))); (try dsimp only [putA, optG]))
  repeat (first | apply Wp.seq | apply Wp.block | (apply Run.next; (simp only [push_cast, seval] <;> (try simp (disch := omega) only [wI, wU, wC]) <;> exact rfl); (focus ((try simp only [push_cast, seval]) <;> exact sT))) | ((first | apply Run.nil | apply Wp.skip); dsimp only [sQ, tQ, bQ]) | (apply Wp.run; (dsimp only [List.map] <;> exact rfl); exact rfl) | (apply Wp.exit; dsimp only [sQ, tQ, bQ]; simp only [reduceIte]) | (apply Run.gtrue; (simp only [push_cast, seval] <;> (try simp (disch := omega) only [wI, wU, wC]) <;> exact rfl); (simp only [push_cast, seval] <;> (try simp (disch := omega) only [wI, wU, wC]) <;> exact rfl)) | (apply Run.gfalse (.bool false); (simp only [push_cast, seval] <;> (try simp (disch := omega) only [wI, wU, wC]) <;> exact rfl); dsimp only [S.put, optG]) | (apply Wp.condT; (simp only [push_cast, seval] <;> (try simp (disch := omega) only [wI, wU, wC]) <;> exact rfl)) | (apply Wp.condF; (simp only [push_cast, seval] <;> (try simp (disch := omega) only [wI, wU, wC]) <;> exact rfl)))
  refine Wp.loop (fun (q : Nat × Int) => { t := [(1, .lst 6 (ls.map bkA)), (3, .optr 0 0 0 0), (5, .optr 1 0 0 0), (9, .int (600 + (q.1 : Int)))], m := [⟨0, .row 3 [houA cs ms 30]⟩, ⟨0, .row 6 [bkA (exb q.2)]⟩], n := 37 }) (fun q => q.1 ≤ 110) (fun q => 110 - q.1) (0, 600) ?_ ?_ ?_
  · (refine Le.of ?_ ?_ rfl rfl <;> (try simp only [push_cast, seval]) <;> (try (with_reducible rfl)))
    all_goals rfl
  · simp
  · rintro ⟨k, s⟩ hk
    simp only at hk
    have e1 : decide (600 + (k : Int) ≤ 1440) = true := decide_eq_true (by omega)
    rcases Nat.lt_or_ge k 110 with hlt | hge
    · have h4 := h2 k hlt
      repeat (first | apply Wp.seq | apply Wp.block | (apply Run.next; (simp only [push_cast, seval, e1] <;> (try simp (disch := omega) only [wI, wU, wC]) <;> exact rfl); (focus ((try simp only [push_cast, seval, e1]) <;> exact sT))) | ((first | apply Run.nil | apply Wp.skip); dsimp only [sQ, tQ, bQ]) | (apply Wp.run; (dsimp only [List.map] <;> exact rfl); exact rfl) | (apply Wp.exit; dsimp only [sQ, tQ, bQ]; simp only [reduceIte]) | (apply Run.gtrue; (simp only [push_cast, seval, e1] <;> (try simp (disch := omega) only [wI, wU, wC]) <;> exact rfl); (simp only [push_cast, seval, e1] <;> (try simp (disch := omega) only [wI, wU, wC]) <;> exact rfl)) | (apply Run.gfalse (.bool false); (simp only [push_cast, seval, e1] <;> (try simp (disch := omega) only [wI, wU, wC]) <;> exact rfl); dsimp only [S.put, optG]) | (apply Wp.condT; (simp only [push_cast, seval, e1] <;> (try simp (disch := omega) only [wI, wU, wC]) <;> exact rfl)) | (apply Wp.condF; (simp only [push_cast, seval, e1] <;> (try simp (disch := omega) only [wI, wU, wC]) <;> exact rfl)))
      (apply Run.pureFP; (simp only [push_cast, seval, e1] <;> (try simp (disch := omega) only [wI, wU, wC]) <;> exact rfl); (exact (Enters.of Try.func19 rfl rfl)); (exact h4); (focus (simp only [push_cast, seval, e1] <;> first | trivial | assumption | (refine ⟨?_, ?_⟩ <;> assumption) | (simp; done))); (try dsimp only [putA, optG]))
      repeat (first | apply Wp.seq | apply Wp.block | (apply Run.next; (simp only [push_cast, seval, e1] <;> (try simp (disch := omega) only [wI, wU, wC]) <;> exact rfl); (focus ((try simp only [push_cast, seval, e1]) <;> exact sT))) | ((first | apply Run.nil | apply Wp.skip); dsimp only [sQ, tQ, bQ]) | (apply Wp.run; (dsimp only [List.map] <;> exact rfl); exact rfl) | (apply Wp.exit; dsimp only [sQ, tQ, bQ]; simp only [reduceIte]) | (apply Run.gtrue; (simp only [push_cast, seval, e1] <;> (try simp (disch := omega) only [wI, wU, wC]) <;> exact rfl); (simp only [push_cast, seval, e1] <;> (try simp (disch := omega) only [wI, wU, wC]) <;> exact rfl)) | (apply Run.gfalse (.bool false); (simp only [push_cast, seval, e1] <;> (try simp (disch := omega) only [wI, wU, wC]) <;> exact rfl); dsimp only [S.put, optG]) | (apply Wp.condT; (simp only [push_cast, seval, e1] <;> (try simp (disch := omega) only [wI, wU, wC]) <;> exact rfl)) | (apply Wp.condF; (simp only [push_cast, seval, e1] <;> (try simp (disch := omega) only [wI, wU, wC]) <;> exact rfl)))
      refine ⟨(k + 1, 600 + (k : Int)), ?_, by simp only; omega, by simp only; omega⟩
      (refine Le.of ?_ ?_ rfl rfl <;> (try simp only [push_cast, seval, e1]) <;> (try (with_reducible rfl)))
      all_goals first
        | rfl
        | (rw [Int.add_assoc]; rfl)
        | (rw [← Int.add_assoc]; rfl)
    · have hk' : 600 + (k : Int) = 710 := by omega
      rw [← hk'] at h3
      repeat (first | apply Wp.seq | apply Wp.block | (apply Run.next; (simp only [push_cast, seval, e1] <;> (try simp (disch := omega) only [wI, wU, wC]) <;> exact rfl); (focus ((try simp only [push_cast, seval, e1]) <;> exact sT))) | ((first | apply Run.nil | apply Wp.skip); dsimp only [sQ, tQ, bQ]) | (apply Wp.run; (dsimp only [List.map] <;> exact rfl); exact rfl) | (apply Wp.exit; dsimp only [sQ, tQ, bQ]; simp only [reduceIte]) | (apply Run.gtrue; (simp only [push_cast, seval, e1] <;> (try simp (disch := omega) only [wI, wU, wC]) <;> exact rfl); (simp only [push_cast, seval, e1] <;> (try simp (disch := omega) only [wI, wU, wC]) <;> exact rfl)) | (apply Run.gfalse (.bool false); (simp only [push_cast, seval, e1] <;> (try simp (disch := omega) only [wI, wU, wC]) <;> exact rfl); dsimp only [S.put, optG]) | (apply Wp.condT; (simp only [push_cast, seval, e1] <;> (try simp (disch := omega) only [wI, wU, wC]) <;> exact rfl)) | (apply Wp.condF; (simp only [push_cast, seval, e1] <;> (try simp (disch := omega) only [wI, wU, wC]) <;> exact rfl)))
      (apply Run.pureFP; (simp only [push_cast, seval, e1] <;> (try simp (disch := omega) only [wI, wU, wC]) <;> exact rfl); (exact (Enters.of Try.func19 rfl rfl)); (exact h3); (focus (simp only [push_cast, seval, e1] <;> first | trivial | assumption | (refine ⟨?_, ?_⟩ <;> assumption) | (simp; done))); (try dsimp only [putA, optG]))
      repeat (first | apply Wp.seq | apply Wp.block | (apply Run.next; (simp only [push_cast, seval, e1] <;> (try simp (disch := omega) only [wI, wU, wC]) <;> exact rfl); (focus ((try simp only [push_cast, seval, e1]) <;> exact sT))) | ((first | apply Run.nil | apply Wp.skip); dsimp only [sQ, tQ, bQ]) | (apply Wp.run; (dsimp only [List.map] <;> exact rfl); exact rfl) | (apply Wp.exit; dsimp only [sQ, tQ, bQ]; simp only [reduceIte]) | (apply Run.gtrue; (simp only [push_cast, seval, e1] <;> (try simp (disch := omega) only [wI, wU, wC]) <;> exact rfl); (simp only [push_cast, seval, e1] <;> (try simp (disch := omega) only [wI, wU, wC]) <;> exact rfl)) | (apply Run.gfalse (.bool false); (simp only [push_cast, seval, e1] <;> (try simp (disch := omega) only [wI, wU, wC]) <;> exact rfl); dsimp only [S.put, optG]) | (apply Wp.condT; (simp only [push_cast, seval, e1] <;> (try simp (disch := omega) only [wI, wU, wC]) <;> exact rfl)) | (apply Wp.condF; (simp only [push_cast, seval, e1] <;> (try simp (disch := omega) only [wI, wU, wC]) <;> exact rfl)))
      (apply Wp.ret; (try dsimp only [sQ, tQ, bQ]); apply leave0; exact rfl; (simp only [push_cast, seval, e1] <;> (try simp (disch := omega) only [wI, wU, wC]) <;> exact rfl); all_goals (try simp only [push_cast, seval, e1]); (try rfl))
      rw [hk']
theorem works_pure : Pure Try.prog 18 [] (.bool true) := by
  have h1 := example_pure
  have h2 := exStaff_pure
  have h3 := exSoonest_pure
  have h4 := sameInts_same [0, 1]
  generalize exC = cs at h1 h2 h3
  generalize exM = ms at h1 h2 h3
  generalize exL = ls at h1 h2 h3
  (refine Spec.of_body Try.func18 rfl (by rw [Try.ntmps18]; simp) 0 (by simp) ?_; rw [Try.results18, Try.ntmps18]; simp only [entry, zipArgs, Nat.reduceAdd])
  repeat (first | apply Wp.seq | apply Wp.block | (apply Run.next; (simp only [push_cast, seval] <;> (try simp (disch := omega) only [wI, wU, wC]) <;> exact rfl); (focus ((try simp only [push_cast, seval]) <;> exact sT))) | ((first | apply Run.nil | apply Wp.skip); dsimp only [sQ, tQ, bQ]) | (apply Wp.run; (dsimp only [List.map] <;> exact rfl); exact rfl) | (apply Wp.exit; dsimp only [sQ, tQ, bQ]; simp only [reduceIte]))
  (apply Run.pureFP; (simp only [push_cast, seval] <;> (try simp (disch := omega) only [wI, wU, wC]) <;> exact rfl); (exact (Enters.of Try.func49 rfl rfl)); (exact h1); (focus (simp only [push_cast, seval] <;> first | trivial | assumption | (refine ⟨?_, ?_⟩ <;> assumption) | (simp; done))); (try dsimp only [putA, optG]))
  repeat (first | apply Wp.seq | apply Wp.block | (apply Run.next; (simp only [push_cast, seval] <;> (try simp (disch := omega) only [wI, wU, wC]) <;> exact rfl); (focus ((try simp only [push_cast, seval]) <;> exact sT))) | ((first | apply Run.nil | apply Wp.skip); dsimp only [sQ, tQ, bQ]) | (apply Wp.run; (dsimp only [List.map] <;> exact rfl); exact rfl) | (apply Wp.exit; dsimp only [sQ, tQ, bQ]; simp only [reduceIte]))
  (apply Run.pureFP; (simp only [push_cast, seval] <;> (try simp (disch := omega) only [wI, wU, wC]) <;> exact rfl); (exact (Enters.of Try.func30 rfl rfl)); (exact h2); (focus (simp only [push_cast, seval] <;> first | trivial | assumption | (refine ⟨?_, ?_⟩ <;> assumption) | (simp; done))); (try dsimp only [putA, optG]))
  repeat (first | apply Wp.seq | apply Wp.block | (apply Run.next; (simp only [push_cast, seval] <;> (try simp (disch := omega) only [wI, wU, wC]) <;> exact rfl); (focus ((try simp only [push_cast, seval]) <;> exact sT))) | ((first | apply Run.nil | apply Wp.skip); dsimp only [sQ, tQ, bQ]) | (apply Wp.run; (dsimp only [List.map] <;> exact rfl); exact rfl) | (apply Wp.exit; dsimp only [sQ, tQ, bQ]; simp only [reduceIte]))
  (apply Run.pureFP; (simp only [push_cast, seval] <;> (try simp (disch := omega) only [wI, wU, wC]) <;> exact rfl); (exact (Enters.of Try.func22 rfl rfl)); (exact h3); (focus (simp only [push_cast, seval] <;> first | trivial | assumption | (refine ⟨?_, ?_⟩ <;> assumption) | (simp; done))); (try dsimp only [putA, optG]))
  repeat (first | apply Wp.seq | apply Wp.block | (apply Run.next; (simp only [push_cast, seval] <;> (try simp (disch := omega) only [wI, wU, wC]) <;> exact rfl); (focus ((try simp only [push_cast, seval]) <;> exact sT))) | ((first | apply Run.nil | apply Wp.skip); dsimp only [sQ, tQ, bQ]) | (apply Wp.run; (dsimp only [List.map] <;> exact rfl); exact rfl) | (apply Wp.exit; dsimp only [sQ, tQ, bQ]; simp only [reduceIte]) | (apply Run.gtrue; (simp only [push_cast, seval] <;> (try simp (disch := omega) only [wI, wU, wC]) <;> exact rfl); (simp only [push_cast, seval] <;> (try simp (disch := omega) only [wI, wU, wC]) <;> exact rfl)) | (apply Run.gfalse (.bool false); (simp only [push_cast, seval] <;> (try simp (disch := omega) only [wI, wU, wC]) <;> exact rfl); dsimp only [S.put, optG]) | (apply Wp.condT; (simp only [push_cast, seval] <;> (try simp (disch := omega) only [wI, wU, wC]) <;> exact rfl)) | (apply Wp.condF; (simp only [push_cast, seval] <;> (try simp (disch := omega) only [wI, wU, wC]) <;> exact rfl)))
  (apply Run.pureP; (simp only [push_cast, seval] <;> (try simp (disch := omega) only [wI, wU, wC]) <;> exact rfl); (exact (Enters.of Try.func32 rfl rfl)); (exact h4); (focus (simp only [push_cast, seval] <;> first | trivial | assumption | (refine ⟨?_, ?_⟩ <;> assumption) | (simp; done))); (try dsimp only [putA, optG]))
  repeat (first | apply Wp.seq | apply Wp.block | (apply Run.next; (simp only [push_cast, seval] <;> (try simp (disch := omega) only [wI, wU, wC]) <;> exact rfl); (focus ((try simp only [push_cast, seval]) <;> exact sT))) | ((first | apply Run.nil | apply Wp.skip); dsimp only [sQ, tQ, bQ]) | (apply Wp.run; (dsimp only [List.map] <;> exact rfl); exact rfl) | (apply Wp.exit; dsimp only [sQ, tQ, bQ]; simp only [reduceIte]) | (apply Run.gtrue; (simp only [push_cast, seval] <;> (try simp (disch := omega) only [wI, wU, wC]) <;> exact rfl); (simp only [push_cast, seval] <;> (try simp (disch := omega) only [wI, wU, wC]) <;> exact rfl)) | (apply Run.gfalse (.bool false); (simp only [push_cast, seval] <;> (try simp (disch := omega) only [wI, wU, wC]) <;> exact rfl); dsimp only [S.put, optG]) | (apply Wp.condT; (simp only [push_cast, seval] <;> (try simp (disch := omega) only [wI, wU, wC]) <;> exact rfl)) | (apply Wp.condF; (simp only [push_cast, seval] <;> (try simp (disch := omega) only [wI, wU, wC]) <;> exact rfl)))
  (apply Wp.ret; (try dsimp only [sQ, tQ, bQ]); apply leave0; exact rfl; (simp only [push_cast, seval] <;> (try simp (disch := omega) only [wI, wU, wC]) <;> exact rfl); all_goals (try simp only [push_cast, seval]); (try rfl))
end Go.Proofs.Try
set_option maxHeartbeats 8000000
namespace Go.Proofs.Try
open Go.Vg
end Go.Proofs.Try
set_option maxHeartbeats 8000000
set_option maxRecDepth 20000
namespace Go.Proofs.Try
open Go.Vg

end Go.Proofs.Try
set_option maxHeartbeats 8000000
namespace Go.Proofs.Try
open Go.Vg
def lgB (cs : List Ch) (ms : List Ma) (ls : List Bk) : Bool := (decide (8 < (ls.length : Int)) && decide ((ls.length : Int) ≤ 20)) || (decide (4 < (ms.length : Int)) && decide ((ms.length : Int) ≤ 6))
theorem large_pure (cs : List Ch) (ms : List Ma) (cake : Int) (ls : List Bk) (hm : ms.length ≤ 9223372036854775807) (hl : ls.length ≤ 9223372036854775807) : Pure Try.prog 17 [houA cs ms cake, .lst 6 (ls.map bkA)] (.bool (lgB cs ms ls)) := by
  (refine Spec.of_body Try.func17 rfl (by rw [Try.ntmps17]; simp) 0 (by simp) ?_; rw [Try.results17, Try.ntmps17]; simp only [entry, zipArgs, Nat.reduceAdd])
  repeat (first | apply Wp.seq | apply Wp.block | (apply Run.next; (simp only [push_cast, seval] <;> (try simp (disch := omega) only [wI, wU, wC]) <;> exact rfl); (focus ((try simp only [push_cast, seval]) <;> exact sT))) | ((first | apply Run.nil | apply Wp.skip); dsimp only [sQ, tQ, bQ]) | (apply Wp.run; (dsimp only [List.map] <;> exact rfl); exact rfl) | (apply Wp.exit; dsimp only [sQ, tQ, bQ]; simp only [reduceIte]))
  (apply Wp.ret; (try dsimp only [sQ, tQ, bQ]); apply leave0; exact rfl; (simp only [push_cast, seval] <;> (try simp (disch := omega) only [wI, wU, wC]) <;> exact rfl); all_goals (try simp only [push_cast, seval]); (try rfl))
end Go.Proofs.Try
set_option maxHeartbeats 8000000
set_option maxRecDepth 20000
namespace Go.Proofs.Try
open Go.Vg

/-! two that play against each other -/
end Go.Proofs.Try
set_option maxHeartbeats 8000000
set_option maxRecDepth 20000
namespace Go.Proofs.Try
open Go.Vg

/-! the first right staff -/
theorem getD_set_ne (l : List Int) {i j : Nat} (z : Int) (h : i ≠ j) : (l.set i z).getD j 0 = l.getD j 0 := by
  simp only [List.getD_eq_getElem?_getD]; rw [List.getElem?_set_ne h]
end Go.Proofs.Try
set_option maxHeartbeats 8000000
namespace Go.Proofs.Try
open Go.Vg

/-! behind the errors of Check -/
/-! how many play at the same time -/
end Go.Proofs.Try
set_option maxHeartbeats 8000000
set_option maxRecDepth 20000
namespace Go.Proofs.Try
open Go.Vg

/-! some of the bookings, by a map of their numbers -/
def vi (a : Int) : Value := .int .i64 a
theorem keyedInt : Maps.Keyed Try.prog 3 := kdB_ok (by kernel_rfl)
theorem goodInt {a : Int} (h : -1000 ≤ a ∧ a ≤ 1000) : goodK Try.prog 3 (.int .i64 a) = true := by
  have := Maps.keyOf_int_mk (P := Try.prog) (k := 3) Try.underlying3 (a := a) (by simp [Lit.wf, IntKind.min, IntKind.max, IntKind.signed, IntKind.bits]; omega)
  simp [goodK, this]
def ct (p : Nat → Bool) : Nat → Int
  | 0 => 0
  | k + 1 => if p k = true then ct p k + 1 else ct p k
theorem ct_bd (p : Nat → Bool) : ∀ k, 0 ≤ ct p k ∧ ct p k ≤ k
  | 0 => by simp [ct]
  | k + 1 => by have := ct_bd p k; simp only [ct]; split <;> omega
def num (p : Nat → Bool) (i : Nat) : Int := if p i = true then ct p i else -1
def numL (p : Nat → Bool) : Nat → List (Value × AV)
  | 0 => [(.int .i64 (-1), .int (-1))]
  | k + 1 => numL p k ++ [(.int .i64 (k : Int), .int (num p k))]
theorem findL_app (l : List (Value × AV)) (k : Value) (x : AV) (q : Value) : findL (l ++ [(k, x)]) q = match findL l q with | some y => some y | none => (match eqKey k q with | true => some x | false => none) := by
  induction l with
  | nil => simp only [List.nil_append, findL]; cases eqKey k q <;> rfl
  | cons e l ih =>
    obtain ⟨a, y⟩ := e
    simp only [List.cons_append, findL]
    split
    · rfl
    · exact ih
theorem updL_app (l : List (Value × AV)) (k : Value) (x : AV) : findL l k = none → updL l k x = l ++ [(k, x)] := by
  induction l with
  | nil => intro _; rfl
  | cons e l ih =>
    obtain ⟨a, y⟩ := e
    simp only [findL, updL, List.cons_append]
    split
    · intro h; cases h
    · intro h; rw [ih h]
theorem updL_last (l : List (Value × AV)) (k : Value) (x y : AV) (hk : eqKey k k = true) : findL l k = none → updL (l ++ [(k, x)]) k y = l ++ [(k, y)] := by
  induction l with
  | nil => intro _; simp only [List.nil_append, updL, hk]
  | cons e l ih =>
    obtain ⟨a, z⟩ := e
    simp only [findL, updL, List.cons_append]
    split
    · intro h; cases h
    · intro h; rw [ih h]
theorem numL_none (p : Nat → Bool) : ∀ (k : Nat) (a : Int), (k : Int) ≤ a → findL (numL p k) (.int .i64 a) = none
  | 0, a, h => by
    simp only [numL, findL, eqKey_int, decide_eq_false (by omega : ¬ (-1 : Int) = a)]
  | k + 1, a, h => by
    simp only [numL, findL_app, numL_none p k a (by omega), eqKey_int, decide_eq_false (by omega : ¬ (k : Int) = a)]
theorem numL_neg (p : Nat → Bool) : ∀ (k : Nat), findL (numL p k) (.int .i64 (-1)) = some (.int (-1))
  | 0 => by simp only [numL, findL, eqKey_int, decide_true]
  | k + 1 => by simp only [numL, findL_app, numL_neg p k]
theorem numL_at (p : Nat → Bool) : ∀ (k : Nat) (i : Nat), i < k → findL (numL p k) (.int .i64 (i : Int)) = some (.int (num p i))
  | 0, i, h => by omega
  | k + 1, i, h => by
    by_cases hik : i = k
    · subst hik
      simp only [numL, findL_app, numL_none p i (i : Int) (Int.le_refl _), eqKey_int, decide_true]
    · simp only [numL, findL_app, numL_at p k i (by omega)]
theorem goodL_app {P : Program} {kt : TypeId} (k : Value) (x : AV) (h : goodK P kt k = true) : ∀ (l : List (Value × AV)), goodL P kt l = true → goodL P kt (l ++ [(k, x)]) = true
  | [], _ => by simp only [List.nil_append, goodL, h]
  | (a, y) :: l, hl => by
    simp only [goodL] at hl
    simp only [List.cons_append, goodL]
    split at hl
    · exact goodL_app k x h l hl
    · cases hl
theorem numL_good (p : Nat → Bool) : ∀ (k : Nat), k ≤ 100 → goodL Try.prog 3 (numL p k) = true
  | 0, _ => by simp only [numL, goodL, goodInt (a := -1) (by omega)]
  | k + 1, h => goodL_app _ _ (goodInt (by omega)) _ (numL_good p k (by omega))
def nmR (p : Nat → Bool) (r : Int) : Int := if r = -1 then -1 else num p r.toNat
theorem numL_get (p : Nat → Bool) {n : Nat} {r : Int} (h : -1 ≤ r ∧ r < n) : findL (numL p n) (.int .i64 r) = some (.int (nmR p r)) := by
  unfold nmR
  by_cases h1 : r = -1
  · rw [if_pos h1, h1]; exact numL_neg p n
  · rw [if_neg h1]
    have := numL_at p n r.toNat (by omega)
    rwa [show ((r.toNat : Nat) : Int) = r by omega] at this
def sel (p : Nat → Bool) (ls : List Bk) (k : Nat) : List Bk := ((List.range k).filter p).map fun i => ls.getD i bk0
theorem sel_succ (p : Nat → Bool) (ls : List Bk) (k : Nat) : sel p ls (k + 1) = if p k = true then sel p ls k ++ [ls.getD k bk0] else sel p ls k := by
  unfold sel
  rw [List.range_succ, List.filter_append, List.map_append]
  by_cases h : p k = true
  · rw [if_pos h, List.filter_cons, if_pos h]; rfl
  · rw [if_neg h, List.filter_cons, if_neg h]; simp
theorem sel_len (p : Nat → Bool) (ls : List Bk) : ∀ k, ((sel p ls k).length : Int) = ct p k
  | 0 => rfl
  | k + 1 => by
    rw [sel_succ]
    simp only [ct]
    split
    · simp [sel_len p ls k]
    · exact sel_len p ls k
theorem sel_mem {p : Nat → Bool} {ls : List Bk} {k : Nat} {b : Bk} (h : b ∈ sel p ls k) (hk : k ≤ ls.length) : ∃ i, i < ls.length ∧ b = ls.getD i bk0 ∧ p i = true := by
  unfold sel at h
  obtain ⟨i, hi, rfl⟩ := List.mem_map.1 h
  rw [List.mem_filter, List.mem_range] at hi
  exact ⟨i, by omega, rfl, hi.2⟩
def reR (p : Nat → Bool) (b : Bk) : Bk := { b with rival := nmR p b.rival }
def someL (p : Nat → Bool) (ls : List Bk) : List Bk := (sel p ls ls.length).map (reR p)
theorem take_reR (p : Nat → Bool) (S : List Bk) (k : Nat) (hk : k < S.length) : (S.take k).map (reR p) ++ (reR p (S.getD k bk0) :: S.drop (k + 1)) = (S.take (k + 1)).map (reR p) ++ S.drop (k + 1) := by
  have : S.take (k + 1) = S.take k ++ [S.getD k bk0] := by
    rw [List.take_add_one]; simp [hk]
  rw [this]; simp
def mixL (p : Nat → Bool) (S : List Bk) (k : Nat) : List Bk := (S.take k).map (reR p) ++ S.drop k
theorem mixL_len (p : Nat → Bool) (S : List Bk) (k : Nat) : (mixL p S k).length = S.length := by
  simp [mixL]; omega
theorem mixL_get (p : Nat → Bool) (S : List Bk) (k : Nat) (hk : k < S.length) : (mixL p S k).getD k bk0 = S.getD k bk0 := by
  have hl : ((S.take k).map (reR p)).length = k := by simp; omega
  simp only [mixL, List.getD_eq_getElem?_getD]
  rw [List.getElem?_append_right (by omega), hl]
  simp
theorem mixL_set (p : Nat → Bool) (S : List Bk) (k : Nat) (hk : k < S.length) : (mixL p S k).set k (reR p (S.getD k bk0)) = mixL p S (k + 1) := by
  have hl : ((S.take k).map (reR p)).length = k := by simp; omega
  unfold mixL
  rw [← take_reR p S k hk, List.set_append_right _ _ (by omega), hl, Nat.sub_self]
  have : S.drop k = S.getD k bk0 :: S.drop (k + 1) := by
    rw [List.drop_eq_getElem_cons hk]; simp [hk]
  rw [this]; rfl
theorem mixL_all (p : Nat → Bool) (S : List Bk) : mixL p S S.length = S.map (reR p) := by simp [mixL]
theorem some_pure (ls : List Bk) (g : FuncId) (caps : List AV) (p : Nat → Bool) (hg : Enters Try.prog g) (hk : okL 0 caps) (hcv : ∀ m, caps.map (view m) = caps ∧ caps.map (view2 m) = caps) (hp : ∀ i, i < ls.length → Pure Try.prog g (.int (i : Int) :: caps) (.bool (p i))) (hl20 : ls.length ≤ 20) (hrv : ∀ i, i < ls.length → -1 ≤ (ls.getD i bk0).rival ∧ (ls.getD i bk0).rival < ls.length) :
    Pure Try.prog 70 [.lst 6 (ls.map bkA), .clo g caps] (.lst 6 ((someL p ls).map bkA)) := by
  have e0 : findL [] (.int .i64 (-1)) = none := rfl
  have e1 : updL [] (.int .i64 (-1)) (.int (-1)) = [(.int .i64 (-1), .int (-1))] := rfl
  have e2 : goodK Try.prog 3 (.int .i64 (-1)) = true := goodInt (by omega)
  have e3 : goodL Try.prog 3 [] = true := rfl
  have hki : Maps.Keyed Try.prog 3 = True := eq_true keyedInt
  (refine Spec.of_body Try.func70 rfl (by rw [Try.ntmps70]; simp) 0 (by simp) ?_; rw [Try.results70, Try.ntmps70]; simp only [entry, zipArgs, Nat.reduceAdd])
  repeat (first | apply Wp.seq | apply Wp.block | (apply Run.next; (simp only [push_cast, seval, hcv, List.map_append, e1, e2, e3, hki] <;> (try simp (disch := omega) only [wI, wU, wC]) <;> exact rfl); (focus ((try simp only [push_cast, seval, hcv, List.map_append, e1, e2, e3, hki]) <;> exact sT))) | ((first | apply Run.nil | apply Wp.skip); dsimp only [sQ, tQ, bQ]) | (apply Wp.run; (dsimp only [List.map] <;> exact rfl); exact rfl) | (apply Wp.exit; dsimp only [sQ, tQ, bQ]; simp only [reduceIte]))
  refine Wp.adopt 4 6 (by (simp only [push_cast, seval, hcv, List.map_append, e1, e2, e3, hki] <;> (try simp (disch := omega) only [wI, wU, wC]) <;> exact rfl)) ?_
  refine Wp.loop (fun k : Nat => { t := [(0, .lst 6 (ls.map bkA)), (1, .clo g caps), (5, .omap 0 0), (4, .osl 1 (sel p ls k).length 0 (sel p ls k).length), (11, .int ls.length), (12, .int k)], m := [⟨0, .mp (numL p k)⟩, ⟨(sel p ls k).length, .row 6 ((sel p ls k).map bkA)⟩], n := 50 }) (fun k => k ≤ ls.length) (fun k => ls.length - k) 0 ?_ ?_ ?_
  · (refine Le.of ?_ ?_ rfl rfl <;> (try simp only [push_cast, seval, hcv, List.map_append]) <;> (try (with_reducible rfl)))
    all_goals rfl
  · simp
  · intro k hk1
    have hnn := numL_none p k (k : Int) (Int.le_refl _)
    have hng := numL_good p k (by omega)
    have hns : numL p (k + 1) = numL p k ++ [(.int .i64 (k : Int), .int (num p k))] := rfl
    have hnm : num p k = if p k = true then ct p k else -1 := rfl
    have hsl := sel_len p ls k
    have hss := sel_succ p ls k
    have hcb := ct_bd p k
    generalize hN : numL p k = N at hnn hng hns
    generalize hS : sel p ls k = S at hsl hss
    repeat (first | apply Wp.seq | apply Wp.block | (apply Run.next; (simp only [push_cast, seval, hcv, List.map_append] <;> (try simp (disch := omega) only [wI, wU, wC]) <;> exact rfl); (focus ((try simp only [push_cast, seval, hcv, List.map_append]) <;> exact sT))) | ((first | apply Run.nil | apply Wp.skip); dsimp only [sQ, tQ, bQ]) | (apply Wp.run; (dsimp only [List.map] <;> exact rfl); exact rfl) | (apply Wp.exit; dsimp only [sQ, tQ, bQ]; simp only [reduceIte]))
    (apply Wp.cond; (simp only [push_cast, seval, hcv, List.map_append] <;> (try simp (disch := omega) only [wI, wU, wC]) <;> exact rfl))
    · intro hc
      simp only [decide_eq_true_eq, Int.ofNat_lt] at hc
      have hpk := hp k hc
      have hgk := goodInt (a := (k : Int)) (by omega)
      have u1 := updL_app N (.int .i64 (k : Int)) (.int (-1)) hnn
      have u2 := fun y => updL_last N (.int .i64 (k : Int)) (.int (-1)) y (by rw [eqKey_int]; simp) hnn
      have g2 := goodL_app (P := Try.prog) (kt := 3) (.int .i64 (k : Int)) (.int (-1)) hgk N hng
      generalize hx : ls.getD k bk0 = x at hss
      repeat (first | apply Wp.seq | apply Wp.block | (apply Run.next; (simp only [push_cast, seval, hcv, List.map_append, hx, u1, u2, hng, hgk, hki, g2] <;> (try simp (disch := omega) only [wI, wU, wC]) <;> exact rfl); (focus ((try simp only [push_cast, seval, hcv, List.map_append, hx, u1, u2, hng, hgk, hki, g2]) <;> exact sT))) | ((first | apply Run.nil | apply Wp.skip); dsimp only [sQ, tQ, bQ]) | (apply Wp.run; (dsimp only [List.map] <;> exact rfl); exact rfl) | (apply Wp.exit; dsimp only [sQ, tQ, bQ]; simp only [reduceIte]))
      (apply Run.pureP; (simp only [push_cast, seval, hcv, List.map_append, hx, u1, u2, hng, hgk, hki, g2] <;> (try simp (disch := omega) only [wI, wU, wC]) <;> exact rfl); (exact hg); (exact hpk); (focus (simp only [push_cast, seval, hcv, List.map_append, hx, u1, u2, hng, hgk, hki, g2] <;> first | trivial | assumption | (refine ⟨?_, ?_⟩ <;> assumption) | (simp; done))); (try dsimp only [putA, optG]))
      repeat (first | apply Wp.seq | apply Wp.block | (apply Run.next; (simp only [push_cast, seval, hcv, List.map_append, hx, u1, u2, hng, hgk, hki, g2] <;> (try simp (disch := omega) only [wI, wU, wC]) <;> exact rfl); (focus ((try simp only [push_cast, seval, hcv, List.map_append, hx, u1, u2, hng, hgk, hki, g2]) <;> exact sT))) | ((first | apply Run.nil | apply Wp.skip); dsimp only [sQ, tQ, bQ]) | (apply Wp.run; (dsimp only [List.map] <;> exact rfl); exact rfl) | (apply Wp.exit; dsimp only [sQ, tQ, bQ]; simp only [reduceIte]))
      (apply Wp.cond; (simp only [push_cast, seval, hcv, List.map_append, hx, u1, u2, hng, hgk, hki, g2] <;> (try simp (disch := omega) only [wI, wU, wC]) <;> exact rfl))
      · intro h2
        rw [if_pos h2] at hss hnm
        repeat (first | apply Wp.seq | apply Wp.block | (apply Run.next; (simp only [push_cast, seval, hcv, List.map_append, hx, u1, u2, hng, hgk, hki, g2] <;> (try simp (disch := omega) only [wI, wU, wC]) <;> exact rfl); (focus ((try simp only [push_cast, seval, hcv, List.map_append, hx, u1, u2, hng, hgk, hki, g2]) <;> exact sT))) | ((first | apply Run.nil | apply Wp.skip); dsimp only [sQ, tQ, bQ]) | (apply Wp.run; (dsimp only [List.map] <;> exact rfl); exact rfl) | (apply Wp.exit; dsimp only [sQ, tQ, bQ]; simp only [reduceIte]))
        refine ⟨k + 1, ?_, by omega, by omega⟩
        rw [hss, hns, hnm, ← hsl, List.length_append]
        (refine Le.of ?_ ?_ rfl rfl <;> (try simp only [push_cast, seval, hcv, List.map_append, hx, u1, u2, hng, hgk, hki, g2]) <;> (try (with_reducible rfl)))
      · intro h2
        rw [if_neg (by rw [h2]; simp)] at hss hnm
        repeat (first | apply Wp.seq | apply Wp.block | (apply Run.next; (simp only [push_cast, seval, hcv, List.map_append, hx, u1, u2, hng, hgk, hki, g2] <;> (try simp (disch := omega) only [wI, wU, wC]) <;> exact rfl); (focus ((try simp only [push_cast, seval, hcv, List.map_append, hx, u1, u2, hng, hgk, hki, g2]) <;> exact sT))) | ((first | apply Run.nil | apply Wp.skip); dsimp only [sQ, tQ, bQ]) | (apply Wp.run; (dsimp only [List.map] <;> exact rfl); exact rfl) | (apply Wp.exit; dsimp only [sQ, tQ, bQ]; simp only [reduceIte]))
        refine ⟨k + 1, ?_, by omega, by omega⟩
        rw [hss, hns, hnm]
        (refine Le.of ?_ ?_ rfl rfl <;> (try simp only [push_cast, seval, hcv, List.map_append, hx, u1, u2, hng, hgk, hki, g2]) <;> (try (with_reducible rfl)))
    · intro hc
      simp only [decide_eq_false_iff_not, Int.ofNat_lt] at hc
      obtain rfl : k = ls.length := by omega
      have hSm : ∀ j, j < S.length → -1 ≤ (S.getD j bk0).rival ∧ (S.getD j bk0).rival < ls.length := by
        intro j hj
        have h1 : S.getD j bk0 ∈ sel p ls ls.length := by rw [hS]; exact memBk hj
        obtain ⟨i, hi, he, _⟩ := sel_mem h1 (Nat.le_refl _)
        rw [he]; exact hrv i hi
      have hsr : someL p ls = S.map (reR p) := by unfold someL; rw [hS]
      repeat (first | apply Wp.seq | apply Wp.block | (apply Run.next; (simp only [push_cast, seval, hcv, List.map_append] <;> (try simp (disch := omega) only [wI, wU, wC]) <;> exact rfl); (focus ((try simp only [push_cast, seval, hcv, List.map_append]) <;> exact sT))) | ((first | apply Run.nil | apply Wp.skip); dsimp only [sQ, tQ, bQ]) | (apply Wp.run; (dsimp only [List.map] <;> exact rfl); exact rfl) | (apply Wp.exit; dsimp only [sQ, tQ, bQ]; simp only [reduceIte]))
      refine Wp.loop (fun k : Nat => { t := [(5, .omap 0 0), (4, .osl 1 S.length 0 S.length), (33, .int S.length), (34, .int k)], m := [⟨0, .mp N⟩, ⟨S.length, .row 6 ((mixL p S k).map bkA)⟩], n := 50 }) (fun k => k ≤ S.length) (fun k => S.length - k) 0 ?_ ?_ ?_
      · (refine Le.of ?_ ?_ rfl rfl <;> (try simp only [push_cast, seval, hcv, List.map_append]) <;> (try (with_reducible rfl)))
        all_goals simp [mixL]
      · simp
      · intro i hi1
        have hml := mixL_len p S i
        repeat (first | apply Wp.seq | apply Wp.block | (apply Run.next; (simp only [push_cast, seval, hcv, List.map_append] <;> (try simp (disch := omega) only [wI, wU, wC]) <;> exact rfl); (focus ((try simp only [push_cast, seval, hcv, List.map_append]) <;> exact sT))) | ((first | apply Run.nil | apply Wp.skip); dsimp only [sQ, tQ, bQ]) | (apply Wp.run; (dsimp only [List.map] <;> exact rfl); exact rfl) | (apply Wp.exit; dsimp only [sQ, tQ, bQ]; simp only [reduceIte]))
        (apply Wp.cond; (simp only [push_cast, seval, hcv, List.map_append] <;> (try simp (disch := omega) only [wI, wU, wC]) <;> exact rfl))
        · intro hci
          simp only [decide_eq_true_eq, Int.ofNat_lt] at hci
          have hmg := mixL_get p S i hci
          have hms := mixL_set p S i hci
          have hri := hSm i hci
          have hfl := numL_get p hri
          rw [hN] at hfl
          have hgr := goodInt (a := (S.getD i bk0).rival) (by omega)
          generalize hM : mixL p S i = M at hmg hms hml
          have hmd : ∀ d, (M.map bkA).getD i d = bkA (S.getD i bk0) := by
            intro d
            rw [← hmg]
            simp [List.getD_eq_getElem?_getD, show i < M.length by omega]
          generalize hz : S.getD i bk0 = z at hmg hms hri hfl hgr hmd
          repeat (first | apply Wp.seq | apply Wp.block | (apply Run.next; (simp only [push_cast, seval, hcv, List.map_append, hmd, hmg, hml, hfl, hng, hgr, hki] <;> (try simp (disch := omega) only [wI, wU, wC]) <;> exact rfl); (focus ((try simp only [push_cast, seval, hcv, List.map_append, hmd, hmg, hml, hfl, hng, hgr, hki]) <;> exact sT))) | ((first | apply Run.nil | apply Wp.skip); dsimp only [sQ, tQ, bQ]) | (apply Wp.run; (dsimp only [List.map] <;> exact rfl); exact rfl) | (apply Wp.exit; dsimp only [sQ, tQ, bQ]; simp only [reduceIte]))
          refine ⟨i + 1, ?_, by omega, by omega⟩
          rw [← hms]
          (refine Le.of ?_ ?_ rfl rfl <;> (try simp only [push_cast, seval, hcv, List.map_append, hmd, hmg, hml, hfl, hng, hgr, hki]) <;> (try (with_reducible rfl)))
          all_goals simp [reR, bkA]
        · intro hci
          simp only [decide_eq_false_iff_not, Int.ofNat_lt] at hci
          obtain rfl : i = S.length := by omega
          rw [mixL_all]
          repeat (first | apply Wp.seq | apply Wp.block | (apply Run.next; (simp only [push_cast, seval, hcv, List.map_append] <;> (try simp (disch := omega) only [wI, wU, wC]) <;> exact rfl); (focus ((try simp only [push_cast, seval, hcv, List.map_append]) <;> exact sT))) | ((first | apply Run.nil | apply Wp.skip); dsimp only [sQ, tQ, bQ]) | (apply Wp.run; (dsimp only [List.map] <;> exact rfl); exact rfl) | (apply Wp.exit; dsimp only [sQ, tQ, bQ]; simp only [reduceIte]))
          (apply Wp.freeze 4; (simp only [push_cast, seval, hcv, List.map_append] <;> (try simp (disch := omega) only [wI, wU, wC]) <;> exact rfl); (simp only [push_cast, seval, hcv, List.map_append] <;> (try simp (disch := omega) only [wI, wU, wC]) <;> exact rfl); (focus (try simp only [push_cast, seval, hcv, List.map_append]); (try (exact sT))); (focus (exact sT)))
          (apply Wp.ret; (try dsimp only [sQ, tQ, bQ]); apply leave0; exact rfl; (simp only [push_cast, seval, hcv, List.map_append] <;> (try simp (disch := omega) only [wI, wU, wC]) <;> exact rfl); all_goals (try simp only [push_cast, seval, hcv, List.map_append]); (try rfl))
          rw [hsr, List.take_of_length_le (by simp)]
end Go.Proofs.Try
set_option maxHeartbeats 8000000
set_option maxRecDepth 20000
namespace Go.Proofs.Try
open Go.Vg

/-! a booking is cancelled -/
end Go.Proofs.Try
set_option maxHeartbeats 8000000
set_option maxRecDepth 20000
namespace Go.Proofs.Try
open Go.Vg

/-! some of the bookings stay right -/
def ixL (p : Nat → Bool) (n : Nat) : List Nat := (List.range n).filter p
def ctN (p : Nat → Bool) : Nat → Nat
  | 0 => 0
  | k + 1 => if p k = true then ctN p k + 1 else ctN p k
theorem ct_ctN (p : Nat → Bool) : ∀ k, ct p k = (ctN p k : Int)
  | 0 => rfl
  | k + 1 => by simp only [ct, ctN, ct_ctN p k]; split <;> simp
theorem ixL_succ (p : Nat → Bool) (n : Nat) : ixL p (n + 1) = ixL p n ++ (if p n = true then [n] else []) := by
  unfold ixL
  rw [List.range_succ, List.filter_append, List.filter_cons]
  simp
theorem ixL_len (p : Nat → Bool) : ∀ n, (ixL p n).length = ctN p n
  | 0 => rfl
  | n + 1 => by rw [ixL_succ, List.length_append, ixL_len p n]; simp only [ctN]; split <;> simp
theorem ctN_mono (p : Nat → Bool) {i : Nat} : ∀ {j : Nat}, i ≤ j → ctN p i ≤ ctN p j
  | 0, h => by have : i = 0 := by omega
               subst this; exact Nat.le_refl _
  | j + 1, h => by
    by_cases hij : i = j + 1
    · subst hij; exact Nat.le_refl _
    · have := ctN_mono p (i := i) (j := j) (by omega)
      simp only [ctN]; split <;> omega
theorem ctN_lt (p : Nat → Bool) {i j : Nat} (h : i < j) (hp : p i = true) : ctN p i < ctN p j := by
  have h1 := ctN_mono p (show i + 1 ≤ j by omega)
  simp only [ctN, hp, if_true] at h1
  omega
theorem ixL_at (p : Nat → Bool) : ∀ {n j : Nat}, j < n → p j = true → (ixL p n).getD (ctN p j) 0 = j
  | 0, j, h, _ => by omega
  | n + 1, j, h, hp => by
    rw [ixL_succ]
    have hl := ixL_len p n
    by_cases hjn : j = n
    · subst hjn
      simp only [List.getD_eq_getElem?_getD]
      rw [List.getElem?_append_right (by omega), hl, Nat.sub_self, if_pos hp]; rfl
    · have h1 := ctN_lt p (show j < n by omega) hp
      have ih := ixL_at p (n := n) (j := j) (by omega) hp
      simp only [List.getD_eq_getElem?_getD] at *
      rw [List.getElem?_append_left (by omega)]; exact ih
theorem ixL_of (p : Nat → Bool) {n k : Nat} (hk : k < (ixL p n).length) : ∃ j, j < n ∧ p j = true ∧ ctN p j = k ∧ (ixL p n).getD k 0 = j := by
  have hm : (ixL p n)[k] ∈ ixL p n := List.getElem_mem hk
  unfold ixL at hm
  rw [List.mem_filter, List.mem_range] at hm
  have hm1 : (ixL p n)[k] < n := hm.1
  have hm2 : p (ixL p n)[k] = true := hm.2
  have h1 := ixL_at p hm1 hm2
  have hlt : ctN p (ixL p n)[k] < (ixL p n).length := by rw [ixL_len]; exact ctN_lt p hm1 hm2
  refine ⟨(ixL p n)[k], hm1, hm2, ?_, by simp [hk]⟩
  rw [List.getD_eq_getElem?_getD, List.getElem?_eq_getElem hlt, Option.getD_some] at h1
  have hnd : (ixL p n).Nodup := List.nodup_range.filter _
  exact (List.getElem_inj hnd).1 h1
theorem someL_eq (p : Nat → Bool) (ls : List Bk) : someL p ls = (ixL p ls.length).map fun i => reR p (ls.getD i bk0) := by
  unfold someL sel ixL; rw [List.map_map]; rfl
theorem someL_len (p : Nat → Bool) (ls : List Bk) : (someL p ls).length = ctN p ls.length := by rw [someL_eq, List.length_map, ixL_len]
theorem someL_at {p : Nat → Bool} {ls : List Bk} {j : Nat} (hj : j < ls.length) (hp : p j = true) : ctN p j < (someL p ls).length ∧ (someL p ls).getD (ctN p j) bk0 = reR p (ls.getD j bk0) := by
  have h1 := ixL_at p hj hp
  have h2 : ctN p j < (ixL p ls.length).length := by rw [ixL_len]; exact ctN_lt p hj hp
  refine ⟨by rw [someL_len]; exact ctN_lt p hj hp, ?_⟩
  rw [someL_eq]
  simp only [List.getD_eq_getElem?_getD, List.getElem?_map, List.getElem?_eq_getElem h2, Option.map_some, Option.getD_some] at *
  rw [h1]
theorem someL_of {p : Nat → Bool} {ls : List Bk} {k : Nat} (hk : k < (someL p ls).length) : ∃ j, j < ls.length ∧ p j = true ∧ ctN p j = k ∧ (ixL p ls.length).getD k 0 = j ∧ (someL p ls).getD k bk0 = reR p (ls.getD j bk0) := by
  obtain ⟨j, h1, h2, h3, h4⟩ := ixL_of p (n := ls.length) (k := k) (by rw [ixL_len, ← someL_len]; exact hk)
  refine ⟨j, h1, h2, h3, h4, ?_⟩
  rw [← h3]; exact (someL_at h1 h2).2
theorem nmR_at {p : Nat → Bool} {r : Int} (h0 : 0 ≤ r) : nmR p r = if p r.toNat = true then (ctN p r.toNat : Int) else -1 := by
  unfold nmR num
  rw [if_neg (by omega), ct_ctN]
theorem okB_iff {cs : List Ch} {cake : Int} {ls : List Bk} {i : Nat} : okB cs cake ls i = true ↔ bkB cs cake (ls.getD i bk0) = true ∧ ((ls.getD i bk0).rival = -1 ∨ ∃ m : Nat, (ls.getD i bk0).rival = (m : Int) ∧ m ≠ i ∧ m < ls.length ∧ (ls.getD m bk0).rival = (i : Int)) := by
  unfold okB
  simp only [Bool.and_eq_true, Bool.or_eq_true, decide_eq_true_eq, Bool.not_eq_true', decide_eq_false_iff_not, wi_iff]
  constructor
  · rintro ⟨h1, h2⟩
    refine ⟨h1, ?_⟩
    rcases h2 with h2 | ⟨⟨h2, h3⟩, h4⟩
    · exact .inl h2
    · exact .inr ⟨(ls.getD i bk0).rival.toNat, by omega, by omega, by omega, h4⟩
  · rintro ⟨h1, h2⟩
    refine ⟨h1, ?_⟩
    rcases h2 with h2 | ⟨m, h2, h3, h4, h5⟩
    · exact .inl h2
    · right
      have e : (ls.getD i bk0).rival.toNat = m := by omega
      rw [e]
      exact ⟨⟨by omega, by omega⟩, h5⟩
theorem ck_iff {cs : List Ch} {ms : List Ma} {cake : Int} {ls : List Bk} : ckE cs ms cake ls = 0 ↔ hoB cs ms cake = true ∧ ls.length ≤ 20 ∧ ∀ i, i < ls.length → okB cs cake ls i = true := by
  unfold ckE
  constructor
  · intro h
    split at h
    · rename_i h1
      split at h
      · rename_i h2
        split at h
        · rename_i h3
          rw [List.all_eq_true] at h3
          exact ⟨h1, h2, fun i hi => h3 i (List.mem_range.2 hi)⟩
        · cases h
      · cases h
    · cases h
  · rintro ⟨h1, h2, h3⟩
    rw [if_pos h1, if_pos h2, if_pos (range_all h3)]
theorem ck_some {cs : List Ch} {ms : List Ma} {cake : Int} {ls : List Bk} (p : Nat → Bool) (h : ckE cs ms cake ls = 0) : ckE cs ms cake (someL p ls) = 0 := by
  rw [ck_iff] at h ⊢
  obtain ⟨h1, h2, h3⟩ := h
  have hle : ctN p ls.length ≤ ls.length := by
    have := ct_bd p ls.length; rw [ct_ctN] at this; omega
  refine ⟨h1, by rw [someL_len]; omega, fun k hk => ?_⟩
  obtain ⟨j, g1, g2, g3, _, g5⟩ := someL_of hk
  obtain ⟨q1, q2⟩ := okB_iff.1 (h3 j g1)
  rw [okB_iff, g5]
  refine ⟨q1, ?_⟩
  rcases q2 with q2 | ⟨m, q2, q3, q4, q5⟩
  · left; simp only [reR, q2, nmR, if_true]
  · by_cases hm : p m = true
    · right
      refine ⟨ctN p m, ?_, ?_, (someL_at q4 hm).1, ?_⟩
      · simp only [reR]; rw [q2, nmR_at (by omega), Int.toNat_natCast, if_pos hm]
      · rw [← g3]
        rcases Nat.lt_trichotomy m j with h4 | h4 | h4
        · have := ctN_lt p h4 hm; omega
        · exact (q3 h4).elim
        · have := ctN_lt p h4 g2; omega
      · rw [(someL_at q4 hm).2]
        simp only [reR]; rw [q5, nmR_at (by omega), Int.toNat_natCast, if_pos g2, g3]
    · left
      simp only [reR]; rw [q2, nmR_at (by omega), Int.toNat_natCast, if_neg hm]
theorem ed_0 {cs : List Ch} {ms : List Ma} {cake : Int} {ls : List Bk} : edE cs ms cake ls = 0 ↔ fitB cs cake ls = true ∧ psB cs ms ls = true := by
  unfold edE
  constructor
  · intro h
    split at h
    · rename_i h1
      split at h
      · rename_i h2; exact ⟨h1, h2⟩
      · cases h
    · cases h
  · rintro ⟨h1, h2⟩; rw [if_pos h1, if_pos h2]
/-! bookings with one or two more -/
end Go.Proofs.Try
set_option maxHeartbeats 8000000
namespace Go.Proofs.Try
open Go.Vg
theorem memI {l : List Int} {k : Nat} (h : k < l.length) : l.getD k 0 ∈ l := by simp [h]
theorem findI {l : List Int} {p : Int → Bool} {k : Nat} (hk : k < l.length) (h1 : ∀ j, j < k → p (l.getD j 0) = false) (h2 : p (l.getD k 0) = true) : l.any p = true ∧ l.findIdx p = k := by
  have e : ∀ j (hj : j < l.length), l.getD j 0 = l[j] := fun j hj => by simp [hj]
  refine ⟨List.any_eq_true.2 ⟨l[k], List.getElem_mem hk, by rw [← e k hk]; exact h2⟩, ?_⟩
  rw [List.findIdx_eq hk]
  refine ⟨by rw [← e k hk]; exact h2, fun j hj => ?_⟩
  have := h1 j hj
  rw [e j (by omega)] at this
  exact this
theorem anyNoneI {l : List Int} {p : Int → Bool} (h : ∀ j, j < l.length → p (l.getD j 0) = false) : l.any p = false := by
  rw [List.any_eq_false]
  intro x hx
  obtain ⟨i, hi, rfl⟩ := List.getElem_of_mem hx
  have := h i hi
  simp [hi] at this
  simp [this]
theorem indexFuncI (l : List Int) (g : FuncId) (caps : List AV) (p : Int → Bool) (hg : Enters Try.prog g) (hk : okL 0 caps) (hcv : ∀ m, caps.map (view m) = caps ∧ caps.map (view2 m) = caps) (hp : ∀ x ∈ l, Pure Try.prog g (AV.int x :: caps) (.bool (p x))) (hl : l.length ≤ 9223372036854775807) :
    Pure Try.prog 92 [.ints l, .clo g caps] (.int (if l.any p then (l.findIdx p : Int) else -1)) := by
  (refine Spec.of_body Try.func92 rfl (by rw [Try.ntmps92]; simp) 0 (by simp) ?_; rw [Try.results92, Try.ntmps92]; simp only [entry, zipArgs, Nat.reduceAdd])
  repeat (first | apply Wp.seq | apply Wp.block | (apply Run.next; (simp only [push_cast, seval, hcv, List.map_append] <;> (try simp (disch := omega) only [wI, wU, wC]) <;> exact rfl); (focus ((try simp only [push_cast, seval, hcv, List.map_append]) <;> exact sT))) | ((first | apply Run.nil | apply Wp.skip); dsimp only [sQ, tQ, bQ]) | (apply Wp.run; (dsimp only [List.map] <;> exact rfl); exact rfl) | (apply Wp.exit; dsimp only [sQ, tQ, bQ]; simp only [reduceIte]))
  refine Wp.loop (fun k : Nat => { t := [(0, .ints l), (1, .clo g caps), (7, .int l.length), (8, .int k)], m := [], n := 19 }) (fun k => k ≤ l.length ∧ ∀ j, j < k → p (l.getD j 0) = false) (fun k => l.length - k) 0 ?_ ?_ ?_
  · (refine Le.of ?_ ?_ rfl rfl <;> (try simp only [push_cast, seval, hcv, List.map_append]) <;> (try (with_reducible rfl)))
  · simp
  · rintro k ⟨hk1, hk2⟩
    repeat (first | apply Wp.seq | apply Wp.block | (apply Run.next; (simp only [push_cast, seval, hcv, List.map_append] <;> (try simp (disch := omega) only [wI, wU, wC]) <;> exact rfl); (focus ((try simp only [push_cast, seval, hcv, List.map_append]) <;> exact sT))) | ((first | apply Run.nil | apply Wp.skip); dsimp only [sQ, tQ, bQ]) | (apply Wp.run; (dsimp only [List.map] <;> exact rfl); exact rfl) | (apply Wp.exit; dsimp only [sQ, tQ, bQ]; simp only [reduceIte]))
    (apply Wp.cond; (simp only [push_cast, seval, hcv, List.map_append] <;> (try simp (disch := omega) only [wI, wU, wC]) <;> exact rfl))
    · (intro hc; try simp only [decide_eq_true_eq, decide_eq_false_iff_not, Bool.and_eq_true, Bool.or_eq_true, Bool.not_eq_true, Bool.not_eq_false, Bool.not_eq_true', Bool.not_eq_false', Bool.and_eq_false_iff, Bool.or_eq_false_iff, Int.not_lt, Int.not_le, Int.ofNat_lt, Int.ofNat_le] at hc)
      have hpk := hp _ (memI hc)
      generalize hx : l.getD k 0 = x at hpk
      repeat (first | apply Wp.seq | apply Wp.block | (apply Run.next; (simp only [push_cast, seval, hcv, List.map_append, hx] <;> (try simp (disch := omega) only [wI, wU, wC]) <;> exact rfl); (focus ((try simp only [push_cast, seval, hcv, List.map_append, hx]) <;> exact sT))) | ((first | apply Run.nil | apply Wp.skip); dsimp only [sQ, tQ, bQ]) | (apply Wp.run; (dsimp only [List.map] <;> exact rfl); exact rfl) | (apply Wp.exit; dsimp only [sQ, tQ, bQ]; simp only [reduceIte]))
      (apply Run.pureP; (simp only [push_cast, seval, hcv, List.map_append, hx] <;> (try simp (disch := omega) only [wI, wU, wC]) <;> exact rfl); (exact hg); (exact hpk); (focus (simp only [push_cast, seval, hcv, List.map_append, hx] <;> first | trivial | assumption | (refine ⟨?_, ?_⟩ <;> assumption) | (simp; done))); (try dsimp only [putA, optG]))
      repeat (first | apply Wp.seq | apply Wp.block | (apply Run.next; (simp only [push_cast, seval, hcv, List.map_append, hx] <;> (try simp (disch := omega) only [wI, wU, wC]) <;> exact rfl); (focus ((try simp only [push_cast, seval, hcv, List.map_append, hx]) <;> exact sT))) | ((first | apply Run.nil | apply Wp.skip); dsimp only [sQ, tQ, bQ]) | (apply Wp.run; (dsimp only [List.map] <;> exact rfl); exact rfl) | (apply Wp.exit; dsimp only [sQ, tQ, bQ]; simp only [reduceIte]))
      (apply Wp.cond; (simp only [push_cast, seval, hcv, List.map_append, hx] <;> (try simp (disch := omega) only [wI, wU, wC]) <;> exact rfl))
      · intro h2
        rw [← hx] at h2
        obtain ⟨e1, e2⟩ := findI hc hk2 h2
        repeat (first | apply Wp.seq | apply Wp.block | (apply Run.next; (simp only [push_cast, seval, hcv, List.map_append, hx] <;> (try simp (disch := omega) only [wI, wU, wC]) <;> exact rfl); (focus ((try simp only [push_cast, seval, hcv, List.map_append, hx]) <;> exact sT))) | ((first | apply Run.nil | apply Wp.skip); dsimp only [sQ, tQ, bQ]) | (apply Wp.run; (dsimp only [List.map] <;> exact rfl); exact rfl) | (apply Wp.exit; dsimp only [sQ, tQ, bQ]; simp only [reduceIte]))
        (apply Wp.ret; (try dsimp only [sQ, tQ, bQ]); apply leave0; exact rfl; (simp only [push_cast, seval, hcv, List.map_append, hx] <;> (try simp (disch := omega) only [wI, wU, wC]) <;> exact rfl); all_goals (try simp only [push_cast, seval, hcv, List.map_append, hx]); (try rfl))
        rw [e1, e2]; rfl
      · intro h2
        repeat (first | apply Wp.seq | apply Wp.block | (apply Run.next; (simp only [push_cast, seval, hcv, List.map_append, hx] <;> (try simp (disch := omega) only [wI, wU, wC]) <;> exact rfl); (focus ((try simp only [push_cast, seval, hcv, List.map_append, hx]) <;> exact sT))) | ((first | apply Run.nil | apply Wp.skip); dsimp only [sQ, tQ, bQ]) | (apply Wp.run; (dsimp only [List.map] <;> exact rfl); exact rfl) | (apply Wp.exit; dsimp only [sQ, tQ, bQ]; simp only [reduceIte]))
        refine ⟨k + 1, ?_, ⟨by omega, fun j hj => ?_⟩, by omega⟩
        · (refine Le.of ?_ ?_ rfl rfl <;> (try simp only [push_cast, seval, hcv, List.map_append, hx]) <;> (try (with_reducible rfl)))
        · by_cases hjk : j = k
          · subst hjk; rw [hx]; exact h2
          · exact hk2 j (by omega)
    · (intro hc; try simp only [decide_eq_true_eq, decide_eq_false_iff_not, Bool.and_eq_true, Bool.or_eq_true, Bool.not_eq_true, Bool.not_eq_false, Bool.not_eq_true', Bool.not_eq_false', Bool.and_eq_false_iff, Bool.or_eq_false_iff, Int.not_lt, Int.not_le, Int.ofNat_lt, Int.ofNat_le] at hc)
      repeat (first | apply Wp.seq | apply Wp.block | (apply Run.next; (simp only [push_cast, seval, hcv, List.map_append] <;> (try simp (disch := omega) only [wI, wU, wC]) <;> exact rfl); (focus ((try simp only [push_cast, seval, hcv, List.map_append]) <;> exact sT))) | ((first | apply Run.nil | apply Wp.skip); dsimp only [sQ, tQ, bQ]) | (apply Wp.run; (dsimp only [List.map] <;> exact rfl); exact rfl) | (apply Wp.exit; dsimp only [sQ, tQ, bQ]; simp only [reduceIte]))
      obtain rfl : k = l.length := by omega
      have e1 := anyNoneI hk2
      (apply Wp.ret; (try dsimp only [sQ, tQ, bQ]); apply leave0; exact rfl; (simp only [push_cast, seval, hcv, List.map_append] <;> (try simp (disch := omega) only [wI, wU, wC]) <;> exact rfl); all_goals (try simp only [push_cast, seval, hcv, List.map_append]); (try rfl))
      rw [e1]; rfl
theorem containsFuncI (l : List Int) (g : FuncId) (caps : List AV) (p : Int → Bool) (hg : Enters Try.prog g) (hk : okL 0 caps) (hcv : ∀ m, caps.map (view m) = caps ∧ caps.map (view2 m) = caps) (hp : ∀ x ∈ l, Pure Try.prog g (AV.int x :: caps) (.bool (p x))) (hl : l.length ≤ 9223372036854775807) :
    Pure Try.prog 63 [.ints l, .clo g caps] (.bool (l.any p)) := by
  (refine Spec.of_body Try.func63 rfl (by rw [Try.ntmps63]; simp) 0 (by simp) ?_; rw [Try.results63, Try.ntmps63]; simp only [entry, zipArgs, Nat.reduceAdd])
  repeat (first | apply Wp.seq | apply Wp.block | (apply Run.next; (simp only [push_cast, seval, hcv, List.map_append] <;> (try simp (disch := omega) only [wI, wU, wC]) <;> exact rfl); (focus ((try simp only [push_cast, seval, hcv, List.map_append]) <;> exact sT))) | ((first | apply Run.nil | apply Wp.skip); dsimp only [sQ, tQ, bQ]) | (apply Wp.run; (dsimp only [List.map] <;> exact rfl); exact rfl) | (apply Wp.exit; dsimp only [sQ, tQ, bQ]; simp only [reduceIte]))
  (apply Run.pureP; (simp only [push_cast, seval, hcv, List.map_append] <;> (try simp (disch := omega) only [wI, wU, wC]) <;> exact rfl); (exact (Enters.of Try.func92 rfl rfl)); (exact indexFuncI l g caps p hg hk hcv hp hl); (focus (simp only [push_cast, seval, hcv, List.map_append] <;> first | trivial | assumption | (refine ⟨?_, ?_⟩ <;> assumption) | (simp; done))); (try dsimp only [putA, optG]))
  repeat (first | apply Wp.seq | apply Wp.block | (apply Run.next; (simp only [push_cast, seval, hcv, List.map_append] <;> (try simp (disch := omega) only [wI, wU, wC]) <;> exact rfl); (focus ((try simp only [push_cast, seval, hcv, List.map_append]) <;> exact sT))) | ((first | apply Run.nil | apply Wp.skip); dsimp only [sQ, tQ, bQ]) | (apply Wp.run; (dsimp only [List.map] <;> exact rfl); exact rfl) | (apply Wp.exit; dsimp only [sQ, tQ, bQ]; simp only [reduceIte]))
  (apply Wp.ret; (try dsimp only [sQ, tQ, bQ]); apply leave0; exact rfl; (simp only [push_cast, seval, hcv, List.map_append] <;> (try simp (disch := omega) only [wI, wU, wC]) <;> exact rfl); all_goals (try simp only [push_cast, seval, hcv, List.map_append]); (try rfl))
  split <;> simp_all
end Go.Proofs.Try
set_option maxHeartbeats 8000000
set_option maxRecDepth 20000
namespace Go.Proofs.Try
open Go.Vg

/-! whether a staff is right -/
end Go.Proofs.Try
set_option maxHeartbeats 8000000
set_option maxRecDepth 20000
namespace Go.Proofs.Try
open Go.Vg
end Go.Proofs.Try
set_option maxHeartbeats 8000000
set_option maxRecDepth 20000
namespace Go.Vg
open Go.RowKit
/-- branches meet again in one state -/
theorem Wp.cut {P : Program} {r : Option Nat} {c : Code} {Q : Exit → S → Prop} {s : S} (s1 : S) (h1 : Wp P r c (tQ (fun s' => Le s' s1) Q) s) (h2 : ∀ s', Le s' s1 → Q .normal s') : Wp P r c Q s :=
  h1.mono (by
    intro e s' h
    cases e
    case normal => exact h2 s' h
    all_goals exact h)
end Go.Vg
namespace Go.Proofs.Try
open Go.Vg
end Go.Proofs.Try
set_option maxHeartbeats 8000000
set_option maxRecDepth 20000
namespace Go.Vg
open Go.RowKit
/-- branches meet again in one state, and something is known -/
theorem Wp.cutP {P : Program} {r : Option Nat} {c : Code} {Q : Exit → S → Prop} {s : S} (s1 : S) (C : Prop) (h1 : Wp P r c (tQ (fun s' => Le s' s1 ∧ C) Q) s) (h2 : ∀ s', Le s' s1 → C → Q .normal s') : Wp P r c Q s :=
  h1.mono (by
    intro e s' h
    cases e
    case normal => exact h2 s' h.1 h.2
    all_goals exact h)
/-- a nil slice is an empty list -/
theorem Wp.nilL {P : Program} {r : Option Nat} {c : Code} {Q : Exit → S → Prop} {s : S} (n sz : Nat) (h : look s.t n = .emp) (k : Wp P r c Q { s with t := (n, .lst sz []) :: s.t }) : Wp P r c Q s := by
  intro X a w ρ hr
  have hx := hr.tmps n
  rw [h] at hx
  exact k X a w ρ (hr.setT (emp_lst sz hx))
end Go.Vg
namespace Go.Proofs.Try
open Go.Vg

/-! sets of bookings, bit by bit -/
abbrev sP (s : Int) : Nat → Bool := fun i => tgB s (i : Int)
theorem members_pure (s : Int) (n : Nat) (hn : n ≤ 100) : Pure Try.prog 76 [.int s, .int (n : Int)] (.ints (cL (ixL (sP s) n))) := by
  (refine Spec.of_body Try.func76 rfl (by rw [Try.ntmps76]; simp) 0 (by simp) ?_; rw [Try.results76, Try.ntmps76]; simp only [entry, zipArgs, Nat.reduceAdd])
  repeat (first | apply Wp.seq | apply Wp.block | (apply Run.next; (simp only [push_cast, seval] <;> (try simp (disch := omega) only [wI, wU, wC]) <;> exact rfl); (focus ((try simp only [push_cast, seval]) <;> exact sT))) | ((first | apply Run.nil | apply Wp.skip); dsimp only [sQ, tQ, bQ]) | (apply Wp.run; (dsimp only [List.map] <;> exact rfl); exact rfl) | (apply Wp.exit; dsimp only [sQ, tQ, bQ]; simp only [reduceIte]))
  refine Wp.adopt 4 1 (by (simp only [push_cast, seval] <;> (try simp (disch := omega) only [wI, wU, wC]) <;> exact rfl)) ?_
  refine Wp.loop (fun (k : Nat) => { t := [(0, .int s), (1, .int n), (6, .int n), (7, .int k), (4, .osl 0 (ctN (sP s) k) 0 (ctN (sP s) k))], m := [⟨ctN (sP s) k, .row 1 ((cL (ixL (sP s) k)).map AV.int)⟩], n := 21 }) (fun k => k ≤ n) (fun k => n - k) 0 ?_ ?_ ?_
  · (refine Le.of ?_ ?_ rfl rfl <;> (try simp only [push_cast, seval]) <;> (try (with_reducible rfl)))
    all_goals rfl
  · simp
  · intro k hk
    have hsc := ixL_succ (sP s) k
    have hct : ctN (sP s) (k + 1) = if sP s k = true then ctN (sP s) k + 1 else ctN (sP s) k := rfl
    have hcb : ctN (sP s) k ≤ k := by
      have := ct_bd (sP s) k; rw [ct_ctN] at this; omega
    have hpk : sP s k = tgB s (k : Int) := rfl
    have hcl : (cL (ixL (sP s) k)).length = ctN (sP s) k := by rw [cL_len, ixL_len]
    have hcs : sP s k = true → cL (ixL (sP s) (k + 1)) = cL (ixL (sP s) k) ++ [(k : Int)] := fun h => by rw [hsc, if_pos h]; simp [cL]
    have hcn : sP s k = false → cL (ixL (sP s) (k + 1)) = cL (ixL (sP s) k) := fun h => by rw [hsc, if_neg (by rw [h]; simp), List.append_nil]
    unfold tgB at hpk
    generalize hC : cL (ixL (sP s) k) = C at hcl hcs hcn
    generalize hc0 : ctN (sP s) k = c0 at hct hcb hcl
    have htk : C.take c0 = C := List.take_of_length_le (by omega)
    repeat (first | apply Wp.seq | apply Wp.block | (apply Run.next; (simp only [push_cast, seval, htk, hcl] <;> (try simp (disch := omega) only [wI, wU, wC]) <;> exact rfl); (focus ((try simp only [push_cast, seval, htk, hcl]) <;> exact sT))) | ((first | apply Run.nil | apply Wp.skip); dsimp only [sQ, tQ, bQ]) | (apply Wp.run; (dsimp only [List.map] <;> exact rfl); exact rfl) | (apply Wp.exit; dsimp only [sQ, tQ, bQ]; simp only [reduceIte]))
    (apply Wp.cond; (simp only [push_cast, seval, htk, hcl] <;> (try simp (disch := omega) only [wI, wU, wC]) <;> exact rfl))
    · intro hc
      simp only [decide_eq_true_eq, Int.ofNat_lt] at hc
      repeat (first | apply Wp.seq | apply Wp.block | (apply Run.next; (simp only [push_cast, seval, htk, hcl] <;> (try simp (disch := omega) only [wI, wU, wC]) <;> exact rfl); (focus ((try simp only [push_cast, seval, htk, hcl]) <;> exact sT))) | ((first | apply Run.nil | apply Wp.skip); dsimp only [sQ, tQ, bQ]) | (apply Wp.run; (dsimp only [List.map] <;> exact rfl); exact rfl) | (apply Wp.exit; dsimp only [sQ, tQ, bQ]; simp only [reduceIte]))
      (apply Wp.cond; (simp only [push_cast, seval, htk, hcl] <;> (try simp (disch := omega) only [wI, wU, wC]) <;> exact rfl))
      · intro h2
        have h3 : sP s k = true := by rw [hpk]; exact h2
        rw [if_pos h3] at hct
        repeat (first | apply Wp.seq | apply Wp.block | (apply Run.next; (simp only [push_cast, seval, htk, hcl] <;> (try simp (disch := omega) only [wI, wU, wC]) <;> exact rfl); (focus ((try simp only [push_cast, seval, htk, hcl]) <;> exact sT))) | ((first | apply Run.nil | apply Wp.skip); dsimp only [sQ, tQ, bQ]) | (apply Wp.run; (dsimp only [List.map] <;> exact rfl); exact rfl) | (apply Wp.exit; dsimp only [sQ, tQ, bQ]; simp only [reduceIte]))
        refine ⟨k + 1, ?_, by omega, by omega⟩
        rw [hct, hcs h3]
        (refine Le.of ?_ ?_ rfl rfl <;> (try simp only [push_cast, seval, htk, hcl]) <;> (try (with_reducible rfl)))
      · intro h2
        have h3 : sP s k = false := by rw [hpk]; exact h2
        rw [if_neg (by rw [h3]; simp)] at hct
        repeat (first | apply Wp.seq | apply Wp.block | (apply Run.next; (simp only [push_cast, seval, htk, hcl] <;> (try simp (disch := omega) only [wI, wU, wC]) <;> exact rfl); (focus ((try simp only [push_cast, seval, htk, hcl]) <;> exact sT))) | ((first | apply Run.nil | apply Wp.skip); dsimp only [sQ, tQ, bQ]) | (apply Wp.run; (dsimp only [List.map] <;> exact rfl); exact rfl) | (apply Wp.exit; dsimp only [sQ, tQ, bQ]; simp only [reduceIte]))
        refine ⟨k + 1, ?_, by omega, by omega⟩
        rw [hct, hcn h3]
        (refine Le.of ?_ ?_ rfl rfl <;> (try simp only [push_cast, seval, htk, hcl]) <;> (try (with_reducible rfl)))
    · intro hc
      simp only [decide_eq_false_iff_not, Int.ofNat_lt] at hc
      obtain rfl : k = n := by omega
      repeat (first | apply Wp.seq | apply Wp.block | (apply Run.next; (simp only [push_cast, seval, htk, hcl] <;> (try simp (disch := omega) only [wI, wU, wC]) <;> exact rfl); (focus ((try simp only [push_cast, seval, htk, hcl]) <;> exact sT))) | ((first | apply Run.nil | apply Wp.skip); dsimp only [sQ, tQ, bQ]) | (apply Wp.run; (dsimp only [List.map] <;> exact rfl); exact rfl) | (apply Wp.exit; dsimp only [sQ, tQ, bQ]; simp only [reduceIte]))
      (apply Wp.freeze 4; (simp only [push_cast, seval, htk, hcl] <;> (try simp (disch := omega) only [wI, wU, wC]) <;> exact rfl); (simp only [push_cast, seval, htk, hcl] <;> (try simp (disch := omega) only [wI, wU, wC]) <;> exact rfl); (focus (try simp only [push_cast, seval, htk, hcl]); (try (exact sT))); (focus (exact sT)))
      (apply Wp.ret; (try dsimp only [sQ, tQ, bQ]); apply leave0; exact rfl; (simp only [push_cast, seval, htk, hcl] <;> (try simp (disch := omega) only [wI, wU, wC]) <;> exact rfl); all_goals (try simp only [push_cast, seval, htk, hcl]); (try rfl))
      rw [hC]
theorem ch1_pure (m : Int) : Pure Try.prog 75 [.int m] (.bool (!wi m 0 100000)) := by
  (refine Spec.of_body Try.func75 rfl (by rw [Try.ntmps75]; simp) 0 (by simp) ?_; rw [Try.results75, Try.ntmps75]; simp only [entry, zipArgs, Nat.reduceAdd])
  repeat (first | apply Wp.seq | apply Wp.block | (apply Run.next; (simp only [push_cast, seval] <;> (try simp (disch := omega) only [wI, wU, wC]) <;> exact rfl); (focus ((try simp only [push_cast, seval]) <;> exact sT))) | ((first | apply Run.nil | apply Wp.skip); dsimp only [sQ, tQ, bQ]) | (apply Wp.run; (dsimp only [List.map] <;> exact rfl); exact rfl) | (apply Wp.exit; dsimp only [sQ, tQ, bQ]; simp only [reduceIte]))
  (apply Run.pureP; (simp only [push_cast, seval] <;> (try simp (disch := omega) only [wI, wU, wC]) <;> exact rfl); (exact (Enters.of Try.func65 rfl rfl)); (exact within_pure _ _ _); (focus (simp only [push_cast, seval] <;> first | trivial | assumption | (refine ⟨?_, ?_⟩ <;> assumption) | (simp; done))); (try dsimp only [putA, optG]))
  repeat (first | apply Wp.seq | apply Wp.block | (apply Run.next; (simp only [push_cast, seval] <;> (try simp (disch := omega) only [wI, wU, wC]) <;> exact rfl); (focus ((try simp only [push_cast, seval]) <;> exact sT))) | ((first | apply Run.nil | apply Wp.skip); dsimp only [sQ, tQ, bQ]) | (apply Wp.run; (dsimp only [List.map] <;> exact rfl); exact rfl) | (apply Wp.exit; dsimp only [sQ, tQ, bQ]; simp only [reduceIte]))
  (apply Wp.ret; (try dsimp only [sQ, tQ, bQ]); apply leave0; exact rfl; (simp only [push_cast, seval] <;> (try simp (disch := omega) only [wI, wU, wC]) <;> exact rfl); all_goals (try simp only [push_cast, seval]); (try rfl))
theorem ch2_pure (i : Nat) (s : Int) : Pure Try.prog 79 [.int (i : Int), .ref [.int s] 0] (.bool (sP s i)) := by
  (refine Spec.of_body Try.func79 rfl (by rw [Try.ntmps79]; simp) 0 (by simp) ?_; rw [Try.results79, Try.ntmps79]; simp only [entry, zipArgs, Nat.reduceAdd])
  repeat (first | apply Wp.seq | apply Wp.block | (apply Run.next; (simp only [push_cast, seval] <;> (try simp (disch := omega) only [wI, wU, wC]) <;> exact rfl); (focus ((try simp only [push_cast, seval]) <;> exact sT))) | ((first | apply Run.nil | apply Wp.skip); dsimp only [sQ, tQ, bQ]) | (apply Wp.run; (dsimp only [List.map] <;> exact rfl); exact rfl) | (apply Wp.exit; dsimp only [sQ, tQ, bQ]; simp only [reduceIte]))
  (apply Wp.ret; (try dsimp only [sQ, tQ, bQ]); apply leave0; exact rfl; (simp only [push_cast, seval] <;> (try simp (disch := omega) only [wI, wU, wC]) <;> exact rfl); all_goals (try simp only [push_cast, seval]); (try rfl))
theorem cmp_pure (x y : Int) : Pure Try.prog 96 [.int x, .int y] (.int (if x < y then -1 else if y < x then 1 else 0)) := by
  have hn : ∀ x : Int, Pure Try.prog 102 [.int x] (.bool false) := by
    intro x
    (refine Spec.of_body Try.func102 rfl (by rw [Try.ntmps102]; simp) 0 (by simp) ?_; rw [Try.results102, Try.ntmps102]; simp only [entry, zipArgs, Nat.reduceAdd])
    repeat (first | apply Wp.seq | apply Wp.block | (apply Run.next; (simp only [push_cast, seval] <;> (try simp (disch := omega) only [wI, wU, wC]) <;> exact rfl); (focus ((try simp only [push_cast, seval]) <;> exact sT))) | ((first | apply Run.nil | apply Wp.skip); dsimp only [sQ, tQ, bQ]) | (apply Wp.run; (dsimp only [List.map] <;> exact rfl); exact rfl) | (apply Wp.exit; dsimp only [sQ, tQ, bQ]; simp only [reduceIte]))
    (apply Wp.ret; (try dsimp only [sQ, tQ, bQ]); apply leave0; exact rfl; (simp only [push_cast, seval] <;> (try simp (disch := omega) only [wI, wU, wC]) <;> exact rfl); all_goals (try simp only [push_cast, seval]); (try rfl))
  (refine Spec.of_body Try.func96 rfl (by rw [Try.ntmps96]; simp) 0 (by simp) ?_; rw [Try.results96, Try.ntmps96]; simp only [entry, zipArgs, Nat.reduceAdd])
  repeat (first | apply Wp.seq | apply Wp.block | (apply Run.next; (simp only [push_cast, seval] <;> (try simp (disch := omega) only [wI, wU, wC]) <;> exact rfl); (focus ((try simp only [push_cast, seval]) <;> exact sT))) | ((first | apply Run.nil | apply Wp.skip); dsimp only [sQ, tQ, bQ]) | (apply Wp.run; (dsimp only [List.map] <;> exact rfl); exact rfl) | (apply Wp.exit; dsimp only [sQ, tQ, bQ]; simp only [reduceIte]))
  (apply Run.pureP; (simp only [push_cast, seval] <;> (try simp (disch := omega) only [wI, wU, wC]) <;> exact rfl); (exact (Enters.of Try.func102 rfl rfl)); (exact hn x); (focus (simp only [push_cast, seval] <;> first | trivial | assumption | (refine ⟨?_, ?_⟩ <;> assumption) | (simp; done))); (try dsimp only [putA, optG]))
  repeat (first | apply Wp.seq | apply Wp.block | (apply Run.next; (simp only [push_cast, seval] <;> (try simp (disch := omega) only [wI, wU, wC]) <;> exact rfl); (focus ((try simp only [push_cast, seval]) <;> exact sT))) | ((first | apply Run.nil | apply Wp.skip); dsimp only [sQ, tQ, bQ]) | (apply Wp.run; (dsimp only [List.map] <;> exact rfl); exact rfl) | (apply Wp.exit; dsimp only [sQ, tQ, bQ]; simp only [reduceIte]))
  (apply Run.pureP; (simp only [push_cast, seval] <;> (try simp (disch := omega) only [wI, wU, wC]) <;> exact rfl); (exact (Enters.of Try.func102 rfl rfl)); (exact hn y); (focus (simp only [push_cast, seval] <;> first | trivial | assumption | (refine ⟨?_, ?_⟩ <;> assumption) | (simp; done))); (try dsimp only [putA, optG]))
  repeat (first | apply Wp.seq | apply Wp.block | (apply Run.next; (simp only [push_cast, seval] <;> (try simp (disch := omega) only [wI, wU, wC]) <;> exact rfl); (focus ((try simp only [push_cast, seval]) <;> exact sT))) | ((first | apply Run.nil | apply Wp.skip); dsimp only [sQ, tQ, bQ]) | (apply Wp.run; (dsimp only [List.map] <;> exact rfl); exact rfl) | (apply Wp.exit; dsimp only [sQ, tQ, bQ]; simp only [reduceIte]) | (apply Run.gtrue; (simp only [push_cast, seval] <;> (try simp (disch := omega) only [wI, wU, wC]) <;> exact rfl); (simp only [push_cast, seval] <;> (try simp (disch := omega) only [wI, wU, wC]) <;> exact rfl)) | (apply Run.gfalse (.bool false); (simp only [push_cast, seval] <;> (try simp (disch := omega) only [wI, wU, wC]) <;> exact rfl); dsimp only [S.put, optG]) | (apply Wp.condT; (simp only [push_cast, seval] <;> (try simp (disch := omega) only [wI, wU, wC]) <;> exact rfl)) | (apply Wp.condF; (simp only [push_cast, seval] <;> (try simp (disch := omega) only [wI, wU, wC]) <;> exact rfl)))
  (apply Wp.cond; (simp only [push_cast, seval] <;> (try simp (disch := omega) only [wI, wU, wC]) <;> exact rfl))
  · intro h
    simp only [decide_eq_true_eq] at h
    repeat (first | apply Wp.seq | apply Wp.block | (apply Run.next; (simp only [push_cast, seval] <;> (try simp (disch := omega) only [wI, wU, wC]) <;> exact rfl); (focus ((try simp only [push_cast, seval]) <;> exact sT))) | ((first | apply Run.nil | apply Wp.skip); dsimp only [sQ, tQ, bQ]) | (apply Wp.run; (dsimp only [List.map] <;> exact rfl); exact rfl) | (apply Wp.exit; dsimp only [sQ, tQ, bQ]; simp only [reduceIte]) | (apply Run.gtrue; (simp only [push_cast, seval] <;> (try simp (disch := omega) only [wI, wU, wC]) <;> exact rfl); (simp only [push_cast, seval] <;> (try simp (disch := omega) only [wI, wU, wC]) <;> exact rfl)) | (apply Run.gfalse (.bool false); (simp only [push_cast, seval] <;> (try simp (disch := omega) only [wI, wU, wC]) <;> exact rfl); dsimp only [S.put, optG]) | (apply Wp.condT; (simp only [push_cast, seval] <;> (try simp (disch := omega) only [wI, wU, wC]) <;> exact rfl)) | (apply Wp.condF; (simp only [push_cast, seval] <;> (try simp (disch := omega) only [wI, wU, wC]) <;> exact rfl)))
    (apply Wp.ret; (try dsimp only [sQ, tQ, bQ]); apply leave0; exact rfl; (simp only [push_cast, seval] <;> (try simp (disch := omega) only [wI, wU, wC]) <;> exact rfl); all_goals (try simp only [push_cast, seval]); (try rfl))
    rw [if_pos h]
  · intro h
    simp only [decide_eq_false_iff_not] at h
    rw [if_neg h]
    repeat (first | apply Wp.seq | apply Wp.block | (apply Run.next; (simp only [push_cast, seval] <;> (try simp (disch := omega) only [wI, wU, wC]) <;> exact rfl); (focus ((try simp only [push_cast, seval]) <;> exact sT))) | ((first | apply Run.nil | apply Wp.skip); dsimp only [sQ, tQ, bQ]) | (apply Wp.run; (dsimp only [List.map] <;> exact rfl); exact rfl) | (apply Wp.exit; dsimp only [sQ, tQ, bQ]; simp only [reduceIte]) | (apply Run.gtrue; (simp only [push_cast, seval] <;> (try simp (disch := omega) only [wI, wU, wC]) <;> exact rfl); (simp only [push_cast, seval] <;> (try simp (disch := omega) only [wI, wU, wC]) <;> exact rfl)) | (apply Run.gfalse (.bool false); (simp only [push_cast, seval] <;> (try simp (disch := omega) only [wI, wU, wC]) <;> exact rfl); dsimp only [S.put, optG]) | (apply Wp.condT; (simp only [push_cast, seval] <;> (try simp (disch := omega) only [wI, wU, wC]) <;> exact rfl)) | (apply Wp.condF; (simp only [push_cast, seval] <;> (try simp (disch := omega) only [wI, wU, wC]) <;> exact rfl)))
    (apply Wp.cond; (simp only [push_cast, seval] <;> (try simp (disch := omega) only [wI, wU, wC]) <;> exact rfl))
    · intro h2
      simp only [decide_eq_true_eq] at h2
      repeat (first | apply Wp.seq | apply Wp.block | (apply Run.next; (simp only [push_cast, seval] <;> (try simp (disch := omega) only [wI, wU, wC]) <;> exact rfl); (focus ((try simp only [push_cast, seval]) <;> exact sT))) | ((first | apply Run.nil | apply Wp.skip); dsimp only [sQ, tQ, bQ]) | (apply Wp.run; (dsimp only [List.map] <;> exact rfl); exact rfl) | (apply Wp.exit; dsimp only [sQ, tQ, bQ]; simp only [reduceIte]) | (apply Run.gtrue; (simp only [push_cast, seval] <;> (try simp (disch := omega) only [wI, wU, wC]) <;> exact rfl); (simp only [push_cast, seval] <;> (try simp (disch := omega) only [wI, wU, wC]) <;> exact rfl)) | (apply Run.gfalse (.bool false); (simp only [push_cast, seval] <;> (try simp (disch := omega) only [wI, wU, wC]) <;> exact rfl); dsimp only [S.put, optG]) | (apply Wp.condT; (simp only [push_cast, seval] <;> (try simp (disch := omega) only [wI, wU, wC]) <;> exact rfl)) | (apply Wp.condF; (simp only [push_cast, seval] <;> (try simp (disch := omega) only [wI, wU, wC]) <;> exact rfl)))
      (apply Wp.ret; (try dsimp only [sQ, tQ, bQ]); apply leave0; exact rfl; (simp only [push_cast, seval] <;> (try simp (disch := omega) only [wI, wU, wC]) <;> exact rfl); all_goals (try simp only [push_cast, seval]); (try rfl))
      rw [if_pos h2]
    · intro h2
      simp only [decide_eq_false_iff_not] at h2
      repeat (first | apply Wp.seq | apply Wp.block | (apply Run.next; (simp only [push_cast, seval] <;> (try simp (disch := omega) only [wI, wU, wC]) <;> exact rfl); (focus ((try simp only [push_cast, seval]) <;> exact sT))) | ((first | apply Run.nil | apply Wp.skip); dsimp only [sQ, tQ, bQ]) | (apply Wp.run; (dsimp only [List.map] <;> exact rfl); exact rfl) | (apply Wp.exit; dsimp only [sQ, tQ, bQ]; simp only [reduceIte]) | (apply Run.gtrue; (simp only [push_cast, seval] <;> (try simp (disch := omega) only [wI, wU, wC]) <;> exact rfl); (simp only [push_cast, seval] <;> (try simp (disch := omega) only [wI, wU, wC]) <;> exact rfl)) | (apply Run.gfalse (.bool false); (simp only [push_cast, seval] <;> (try simp (disch := omega) only [wI, wU, wC]) <;> exact rfl); dsimp only [S.put, optG]) | (apply Wp.condT; (simp only [push_cast, seval] <;> (try simp (disch := omega) only [wI, wU, wC]) <;> exact rfl)) | (apply Wp.condF; (simp only [push_cast, seval] <;> (try simp (disch := omega) only [wI, wU, wC]) <;> exact rfl)))
      (apply Wp.ret; (try dsimp only [sQ, tQ, bQ]); apply leave0; exact rfl; (simp only [push_cast, seval] <;> (try simp (disch := omega) only [wI, wU, wC]) <;> exact rfl); all_goals (try simp only [push_cast, seval]); (try rfl))
      rw [if_neg h2]
/-- the first difference, from k on, of so many -/
def lexB (a b : List Int) : Nat → Nat → Bool
  | 0, _ => false
  | d + 1, k => if a.getD k 0 = b.getD k 0 then lexB a b d (k + 1) else decide (a.getD k 0 < b.getD k 0)
theorem compare_pure (a b : List Int) (hab : a.length = b.length) (hl : a.length ≤ 1000) : ∃ v, Pure Try.prog 77 [.ints a, .ints b] (.int v) ∧ decide (v < 0) = lexB a b a.length 0 := by
  obtain ⟨v, hv⟩ : ∃ v, v = if lexB a b a.length 0 = true then (-1 : Int) else (if lexB b a a.length 0 = true then 1 else 0) := ⟨_, rfl⟩
  have hv2 : decide (v < 0) = lexB a b a.length 0 := by
    rw [hv]; cases lexB a b a.length 0 <;> cases lexB b a a.length 0 <;> simp
  refine ⟨v, ?_, hv2⟩
  have hno : decide ((a.length : Int) < b.length) = false := decide_eq_false (by omega)
  (refine Spec.of_body Try.func77 rfl (by rw [Try.ntmps77]; simp) 0 (by simp) ?_; rw [Try.results77, Try.ntmps77]; simp only [entry, zipArgs, Nat.reduceAdd])
  repeat (first | apply Wp.seq | apply Wp.block | (apply Run.next; (simp only [push_cast, seval, hno] <;> (try simp (disch := omega) only [wI, wU, wC]) <;> exact rfl); (focus ((try simp only [push_cast, seval, hno]) <;> exact sT))) | ((first | apply Run.nil | apply Wp.skip); dsimp only [sQ, tQ, bQ]) | (apply Wp.run; (dsimp only [List.map] <;> exact rfl); exact rfl) | (apply Wp.exit; dsimp only [sQ, tQ, bQ]; simp only [reduceIte]))
  refine Wp.loop (fun (k : Nat) => { t := [(0, .ints a), (1, .ints b), (9, .ints a), (10, .int a.length), (11, .int k)], m := [], n := 36 }) (fun k => k ≤ a.length ∧ lexB a b (a.length - k) k = lexB a b a.length 0 ∧ lexB b a (a.length - k) k = lexB b a a.length 0) (fun k => a.length - k) 0 ?_ ?_ ?_
  · (refine Le.of ?_ ?_ rfl rfl <;> (try simp only [push_cast, seval, hno]) <;> (try (with_reducible rfl)))
    all_goals rfl
  · simp
  · rintro k ⟨hk1, hk2, hk3⟩
    repeat (first | apply Wp.seq | apply Wp.block | (apply Run.next; (simp only [push_cast, seval, hno] <;> (try simp (disch := omega) only [wI, wU, wC]) <;> exact rfl); (focus ((try simp only [push_cast, seval, hno]) <;> exact sT))) | ((first | apply Run.nil | apply Wp.skip); dsimp only [sQ, tQ, bQ]) | (apply Wp.run; (dsimp only [List.map] <;> exact rfl); exact rfl) | (apply Wp.exit; dsimp only [sQ, tQ, bQ]; simp only [reduceIte]))
    (apply Wp.cond; (simp only [push_cast, seval, hno] <;> (try simp (disch := omega) only [wI, wU, wC]) <;> exact rfl))
    · intro hc
      simp only [decide_eq_true_eq, Int.ofNat_lt] at hc
      obtain ⟨d, hd⟩ : ∃ d, a.length - k = d + 1 := ⟨a.length - k - 1, by omega⟩
      have hd' : a.length - (k + 1) = d := by omega
      rw [hd] at hk2 hk3
      simp only [lexB] at hk2 hk3
      have hge : decide ((b.length : Int) ≤ (k : Int)) = false := decide_eq_false (by omega)
      have hcm := cmp_pure (a.getD k 0) (b.getD k 0)
      generalize hx : a.getD k 0 = x at hk2 hk3 hcm
      generalize hy : b.getD k 0 = y at hk2 hk3 hcm
      repeat (first | apply Wp.seq | apply Wp.block | (apply Run.next; (simp only [push_cast, seval, hno, hge, hx, hy] <;> (try simp (disch := omega) only [wI, wU, wC]) <;> exact rfl); (focus ((try simp only [push_cast, seval, hno, hge, hx, hy]) <;> exact sT))) | ((first | apply Run.nil | apply Wp.skip); dsimp only [sQ, tQ, bQ]) | (apply Wp.run; (dsimp only [List.map] <;> exact rfl); exact rfl) | (apply Wp.exit; dsimp only [sQ, tQ, bQ]; simp only [reduceIte]) | (apply Run.gtrue; (simp only [push_cast, seval, hno, hge, hx, hy] <;> (try simp (disch := omega) only [wI, wU, wC]) <;> exact rfl); (simp only [push_cast, seval, hno, hge, hx, hy] <;> (try simp (disch := omega) only [wI, wU, wC]) <;> exact rfl)) | (apply Run.gfalse (.bool false); (simp only [push_cast, seval, hno, hge, hx, hy] <;> (try simp (disch := omega) only [wI, wU, wC]) <;> exact rfl); dsimp only [S.put, optG]) | (apply Wp.condT; (simp only [push_cast, seval, hno, hge, hx, hy] <;> (try simp (disch := omega) only [wI, wU, wC]) <;> exact rfl)) | (apply Wp.condF; (simp only [push_cast, seval, hno, hge, hx, hy] <;> (try simp (disch := omega) only [wI, wU, wC]) <;> exact rfl)))
      (apply Run.pureP; (simp only [push_cast, seval, hno, hge, hx, hy] <;> (try simp (disch := omega) only [wI, wU, wC]) <;> exact rfl); (exact (Enters.of Try.func96 rfl rfl)); (exact hcm); (focus (simp only [push_cast, seval, hno, hge, hx, hy] <;> first | trivial | assumption | (refine ⟨?_, ?_⟩ <;> assumption) | (simp; done))); (try dsimp only [putA, optG]))
      rcases Int.lt_trichotomy x y with h | h | h
      · rw [if_pos h]
        rw [if_neg (by omega), decide_eq_true h] at hk2
        repeat (first | apply Wp.seq | apply Wp.block | (apply Run.next; (simp only [push_cast, seval, hno, hge, hx, hy] <;> (try simp (disch := omega) only [wI, wU, wC]) <;> exact rfl); (focus ((try simp only [push_cast, seval, hno, hge, hx, hy]) <;> exact sT))) | ((first | apply Run.nil | apply Wp.skip); dsimp only [sQ, tQ, bQ]) | (apply Wp.run; (dsimp only [List.map] <;> exact rfl); exact rfl) | (apply Wp.exit; dsimp only [sQ, tQ, bQ]; simp only [reduceIte]) | (apply Run.gtrue; (simp only [push_cast, seval, hno, hge, hx, hy] <;> (try simp (disch := omega) only [wI, wU, wC]) <;> exact rfl); (simp only [push_cast, seval, hno, hge, hx, hy] <;> (try simp (disch := omega) only [wI, wU, wC]) <;> exact rfl)) | (apply Run.gfalse (.bool false); (simp only [push_cast, seval, hno, hge, hx, hy] <;> (try simp (disch := omega) only [wI, wU, wC]) <;> exact rfl); dsimp only [S.put, optG]) | (apply Wp.condT; (simp only [push_cast, seval, hno, hge, hx, hy] <;> (try simp (disch := omega) only [wI, wU, wC]) <;> exact rfl)) | (apply Wp.condF; (simp only [push_cast, seval, hno, hge, hx, hy] <;> (try simp (disch := omega) only [wI, wU, wC]) <;> exact rfl)))
        (apply Wp.ret; (try dsimp only [sQ, tQ, bQ]); apply leave0; exact rfl; (simp only [push_cast, seval, hno, hge, hx, hy] <;> (try simp (disch := omega) only [wI, wU, wC]) <;> exact rfl); all_goals (try simp only [push_cast, seval, hno, hge, hx, hy]); (try rfl))
        rw [hv, ← hk2]; rfl
      · rw [if_neg (by omega), if_neg (by omega)]
        rw [if_pos h] at hk2
        rw [if_pos h.symm] at hk3
        repeat (first | apply Wp.seq | apply Wp.block | (apply Run.next; (simp only [push_cast, seval, hno, hge, hx, hy] <;> (try simp (disch := omega) only [wI, wU, wC]) <;> exact rfl); (focus ((try simp only [push_cast, seval, hno, hge, hx, hy]) <;> exact sT))) | ((first | apply Run.nil | apply Wp.skip); dsimp only [sQ, tQ, bQ]) | (apply Wp.run; (dsimp only [List.map] <;> exact rfl); exact rfl) | (apply Wp.exit; dsimp only [sQ, tQ, bQ]; simp only [reduceIte]) | (apply Run.gtrue; (simp only [push_cast, seval, hno, hge, hx, hy] <;> (try simp (disch := omega) only [wI, wU, wC]) <;> exact rfl); (simp only [push_cast, seval, hno, hge, hx, hy] <;> (try simp (disch := omega) only [wI, wU, wC]) <;> exact rfl)) | (apply Run.gfalse (.bool false); (simp only [push_cast, seval, hno, hge, hx, hy] <;> (try simp (disch := omega) only [wI, wU, wC]) <;> exact rfl); dsimp only [S.put, optG]) | (apply Wp.condT; (simp only [push_cast, seval, hno, hge, hx, hy] <;> (try simp (disch := omega) only [wI, wU, wC]) <;> exact rfl)) | (apply Wp.condF; (simp only [push_cast, seval, hno, hge, hx, hy] <;> (try simp (disch := omega) only [wI, wU, wC]) <;> exact rfl)))
        refine ⟨k + 1, ?_, ⟨by omega, by rw [hd']; exact hk2, by rw [hd']; exact hk3⟩, by omega⟩
        (refine Le.of ?_ ?_ rfl rfl <;> (try simp only [push_cast, seval, hno, hge, hx, hy]) <;> (try (with_reducible rfl)))
      · rw [if_neg (by omega), if_pos h]
        rw [if_neg (by omega), decide_eq_false (by omega)] at hk2
        rw [if_neg (by omega), decide_eq_true h] at hk3
        repeat (first | apply Wp.seq | apply Wp.block | (apply Run.next; (simp only [push_cast, seval, hno, hge, hx, hy] <;> (try simp (disch := omega) only [wI, wU, wC]) <;> exact rfl); (focus ((try simp only [push_cast, seval, hno, hge, hx, hy]) <;> exact sT))) | ((first | apply Run.nil | apply Wp.skip); dsimp only [sQ, tQ, bQ]) | (apply Wp.run; (dsimp only [List.map] <;> exact rfl); exact rfl) | (apply Wp.exit; dsimp only [sQ, tQ, bQ]; simp only [reduceIte]) | (apply Run.gtrue; (simp only [push_cast, seval, hno, hge, hx, hy] <;> (try simp (disch := omega) only [wI, wU, wC]) <;> exact rfl); (simp only [push_cast, seval, hno, hge, hx, hy] <;> (try simp (disch := omega) only [wI, wU, wC]) <;> exact rfl)) | (apply Run.gfalse (.bool false); (simp only [push_cast, seval, hno, hge, hx, hy] <;> (try simp (disch := omega) only [wI, wU, wC]) <;> exact rfl); dsimp only [S.put, optG]) | (apply Wp.condT; (simp only [push_cast, seval, hno, hge, hx, hy] <;> (try simp (disch := omega) only [wI, wU, wC]) <;> exact rfl)) | (apply Wp.condF; (simp only [push_cast, seval, hno, hge, hx, hy] <;> (try simp (disch := omega) only [wI, wU, wC]) <;> exact rfl)))
        (apply Wp.ret; (try dsimp only [sQ, tQ, bQ]); apply leave0; exact rfl; (simp only [push_cast, seval, hno, hge, hx, hy] <;> (try simp (disch := omega) only [wI, wU, wC]) <;> exact rfl); all_goals (try simp only [push_cast, seval, hno, hge, hx, hy]); (try rfl))
        rw [hv, ← hk2, ← hk3]; rfl
    · intro hc
      simp only [decide_eq_false_iff_not, Int.ofNat_lt] at hc
      rw [show a.length - k = 0 by omega] at hk2 hk3
      simp only [lexB] at hk2 hk3
      repeat (first | apply Wp.seq | apply Wp.block | (apply Run.next; (simp only [push_cast, seval, hno] <;> (try simp (disch := omega) only [wI, wU, wC]) <;> exact rfl); (focus ((try simp only [push_cast, seval, hno]) <;> exact sT))) | ((first | apply Run.nil | apply Wp.skip); dsimp only [sQ, tQ, bQ]) | (apply Wp.run; (dsimp only [List.map] <;> exact rfl); exact rfl) | (apply Wp.exit; dsimp only [sQ, tQ, bQ]; simp only [reduceIte]) | (apply Run.gtrue; (simp only [push_cast, seval, hno] <;> (try simp (disch := omega) only [wI, wU, wC]) <;> exact rfl); (simp only [push_cast, seval, hno] <;> (try simp (disch := omega) only [wI, wU, wC]) <;> exact rfl)) | (apply Run.gfalse (.bool false); (simp only [push_cast, seval, hno] <;> (try simp (disch := omega) only [wI, wU, wC]) <;> exact rfl); dsimp only [S.put, optG]) | (apply Wp.condT; (simp only [push_cast, seval, hno] <;> (try simp (disch := omega) only [wI, wU, wC]) <;> exact rfl)) | (apply Wp.condF; (simp only [push_cast, seval, hno] <;> (try simp (disch := omega) only [wI, wU, wC]) <;> exact rfl)))
      (apply Wp.ret; (try dsimp only [sQ, tQ, bQ]); apply leave0; exact rfl; (simp only [push_cast, seval, hno] <;> (try simp (disch := omega) only [wI, wU, wC]) <;> exact rfl); all_goals (try simp only [push_cast, seval, hno]); (try rfl))
      rw [hv, ← hk2, ← hk3]; rfl
/-- a choice comes before another one -/
def befB (a b : List Int) : Bool := if a.length = b.length then lexB a b a.length 0 else decide (a.length < b.length)
theorem before_pure (a b : List Int) (hl : a.length ≤ 1000) (hb : b.length ≤ 1000) : Pure Try.prog 81 [.ints a, .ints b] (.bool (befB a b)) := by
  unfold befB
  by_cases hab : a.length = b.length
  · rw [if_pos hab]
    have he : decide ((a.length : Int) = (b.length : Int)) = true := decide_eq_true (by omega)
    (refine Spec.of_body Try.func81 rfl (by rw [Try.ntmps81]; simp) 0 (by simp) ?_; rw [Try.results81, Try.ntmps81]; simp only [entry, zipArgs, Nat.reduceAdd])
    repeat (first | apply Wp.seq | apply Wp.block | (apply Run.next; (simp only [push_cast, seval, he] <;> (try simp (disch := omega) only [wI, wU, wC]) <;> exact rfl); (focus ((try simp only [push_cast, seval, he]) <;> exact sT))) | ((first | apply Run.nil | apply Wp.skip); dsimp only [sQ, tQ, bQ]) | (apply Wp.run; (dsimp only [List.map] <;> exact rfl); exact rfl) | (apply Wp.exit; dsimp only [sQ, tQ, bQ]; simp only [reduceIte]) | (apply Run.gtrue; (simp only [push_cast, seval, he] <;> (try simp (disch := omega) only [wI, wU, wC]) <;> exact rfl); (simp only [push_cast, seval, he] <;> (try simp (disch := omega) only [wI, wU, wC]) <;> exact rfl)) | (apply Run.gfalse (.bool false); (simp only [push_cast, seval, he] <;> (try simp (disch := omega) only [wI, wU, wC]) <;> exact rfl); dsimp only [S.put, optG]) | (apply Wp.condT; (simp only [push_cast, seval, he] <;> (try simp (disch := omega) only [wI, wU, wC]) <;> exact rfl)) | (apply Wp.condF; (simp only [push_cast, seval, he] <;> (try simp (disch := omega) only [wI, wU, wC]) <;> exact rfl)))
    refine Wp.loop (fun (k : Nat) => { t := [(0, .ints a), (1, .ints b), (5, .int k)], m := [], n := 40 }) (fun k => k ≤ a.length ∧ lexB a b (a.length - k) k = lexB a b a.length 0) (fun k => a.length - k) 0 ?_ ?_ ?_
    · (refine Le.of ?_ ?_ rfl rfl <;> (try simp only [push_cast, seval, he]) <;> (try (with_reducible rfl)))
      all_goals rfl
    · simp
    · rintro k ⟨hk1, hk2⟩
      repeat (first | apply Wp.seq | apply Wp.block | (apply Run.next; (simp only [push_cast, seval, he] <;> (try simp (disch := omega) only [wI, wU, wC]) <;> exact rfl); (focus ((try simp only [push_cast, seval, he]) <;> exact sT))) | ((first | apply Run.nil | apply Wp.skip); dsimp only [sQ, tQ, bQ]) | (apply Wp.run; (dsimp only [List.map] <;> exact rfl); exact rfl) | (apply Wp.exit; dsimp only [sQ, tQ, bQ]; simp only [reduceIte]))
      (apply Wp.cond; (simp only [push_cast, seval, he] <;> (try simp (disch := omega) only [wI, wU, wC]) <;> exact rfl))
      · intro hc
        simp only [decide_eq_true_eq, Int.ofNat_lt] at hc
        obtain ⟨d, hd⟩ : ∃ d, a.length - k = d + 1 := ⟨a.length - k - 1, by omega⟩
        have hd' : a.length - (k + 1) = d := by omega
        rw [hd] at hk2
        simp only [lexB] at hk2
        generalize hx : a.getD k 0 = x at hk2
        generalize hy : b.getD k 0 = y at hk2
        repeat (first | apply Wp.seq | apply Wp.block | (apply Run.next; (simp only [push_cast, seval, he, hx, hy] <;> (try simp (disch := omega) only [wI, wU, wC]) <;> exact rfl); (focus ((try simp only [push_cast, seval, he, hx, hy]) <;> exact sT))) | ((first | apply Run.nil | apply Wp.skip); dsimp only [sQ, tQ, bQ]) | (apply Wp.run; (dsimp only [List.map] <;> exact rfl); exact rfl) | (apply Wp.exit; dsimp only [sQ, tQ, bQ]; simp only [reduceIte]))
        (apply Wp.runD 9 mixed; (dsimp only [List.map] <;> exact rfl); exact rfl; kernel_rfl; (dsimp only [List.take] <;> exact rfl); (dsimp only [List.drop] <;> exact rfl); (((repeat (apply Abn.next; (simp only [push_cast, seval, he, hx, hy] <;> (try simp (disch := omega) only [wI, wU, wC]) <;> exact rfl); (focus ((try simp only [push_cast, seval, he, hx, hy]) <;> exact sT))))); exact Abn.nil))
        repeat (first | apply Wp.seq | apply Wp.block | (apply Run.next; (simp only [push_cast, seval, he, hx, hy] <;> (try simp (disch := omega) only [wI, wU, wC]) <;> exact rfl); (focus ((try simp only [push_cast, seval, he, hx, hy]) <;> exact sT))) | ((first | apply Run.nil | apply Wp.skip); dsimp only [sQ, tQ, bQ]) | (apply Wp.run; (dsimp only [List.map] <;> exact rfl); exact rfl) | (apply Wp.exit; dsimp only [sQ, tQ, bQ]; simp only [reduceIte]))
        (apply Wp.cond; (simp only [push_cast, seval, he, hx, hy] <;> (try simp (disch := omega) only [wI, wU, wC]) <;> exact rfl))
        · intro h
          simp only [Bool.not_eq_true', decide_eq_false_iff_not] at h
          rw [if_neg h] at hk2
          repeat (first | apply Wp.seq | apply Wp.block | (apply Run.next; (simp only [push_cast, seval, he, hx, hy] <;> (try simp (disch := omega) only [wI, wU, wC]) <;> exact rfl); (focus ((try simp only [push_cast, seval, he, hx, hy]) <;> exact sT))) | ((first | apply Run.nil | apply Wp.skip); dsimp only [sQ, tQ, bQ]) | (apply Wp.run; (dsimp only [List.map] <;> exact rfl); exact rfl) | (apply Wp.exit; dsimp only [sQ, tQ, bQ]; simp only [reduceIte]))
          (apply Wp.runD 10 mixed; (dsimp only [List.map] <;> exact rfl); exact rfl; kernel_rfl; (dsimp only [List.take] <;> exact rfl); (dsimp only [List.drop] <;> exact rfl); (((repeat (apply Abn.next; (simp only [push_cast, seval, he, hx, hy] <;> (try simp (disch := omega) only [wI, wU, wC]) <;> exact rfl); (focus ((try simp only [push_cast, seval, he, hx, hy]) <;> exact sT))))); exact Abn.nil))
          repeat (first | apply Wp.seq | apply Wp.block | (apply Run.next; (simp only [push_cast, seval, he, hx, hy] <;> (try simp (disch := omega) only [wI, wU, wC]) <;> exact rfl); (focus ((try simp only [push_cast, seval, he, hx, hy]) <;> exact sT))) | ((first | apply Run.nil | apply Wp.skip); dsimp only [sQ, tQ, bQ]) | (apply Wp.run; (dsimp only [List.map] <;> exact rfl); exact rfl) | (apply Wp.exit; dsimp only [sQ, tQ, bQ]; simp only [reduceIte]))
          (apply Wp.ret; (try dsimp only [sQ, tQ, bQ]); apply leave0; exact rfl; (simp only [push_cast, seval, he, hx, hy] <;> (try simp (disch := omega) only [wI, wU, wC]) <;> exact rfl); all_goals (try simp only [push_cast, seval, he, hx, hy]); (try rfl))
          rw [hk2]
        · intro h
          simp only [Bool.not_eq_false', decide_eq_true_eq] at h
          rw [if_pos h] at hk2
          repeat (first | apply Wp.seq | apply Wp.block | (apply Run.next; (simp only [push_cast, seval, he, hx, hy] <;> (try simp (disch := omega) only [wI, wU, wC]) <;> exact rfl); (focus ((try simp only [push_cast, seval, he, hx, hy]) <;> exact sT))) | ((first | apply Run.nil | apply Wp.skip); dsimp only [sQ, tQ, bQ]) | (apply Wp.run; (dsimp only [List.map] <;> exact rfl); exact rfl) | (apply Wp.exit; dsimp only [sQ, tQ, bQ]; simp only [reduceIte]))
          refine ⟨k + 1, ?_, ⟨by omega, by rw [hd']; exact hk2⟩, by omega⟩
          (refine Le.of ?_ ?_ rfl rfl <;> (try simp only [push_cast, seval, he, hx, hy]) <;> (try (with_reducible rfl)))
      · intro hc
        simp only [decide_eq_false_iff_not, Int.ofNat_lt] at hc
        rw [show a.length - k = 0 by omega] at hk2
        simp only [lexB] at hk2
        repeat (first | apply Wp.seq | apply Wp.block | (apply Run.next; (simp only [push_cast, seval, he] <;> (try simp (disch := omega) only [wI, wU, wC]) <;> exact rfl); (focus ((try simp only [push_cast, seval, he]) <;> exact sT))) | ((first | apply Run.nil | apply Wp.skip); dsimp only [sQ, tQ, bQ]) | (apply Wp.run; (dsimp only [List.map] <;> exact rfl); exact rfl) | (apply Wp.exit; dsimp only [sQ, tQ, bQ]; simp only [reduceIte]) | (apply Run.gtrue; (simp only [push_cast, seval, he] <;> (try simp (disch := omega) only [wI, wU, wC]) <;> exact rfl); (simp only [push_cast, seval, he] <;> (try simp (disch := omega) only [wI, wU, wC]) <;> exact rfl)) | (apply Run.gfalse (.bool false); (simp only [push_cast, seval, he] <;> (try simp (disch := omega) only [wI, wU, wC]) <;> exact rfl); dsimp only [S.put, optG]) | (apply Wp.condT; (simp only [push_cast, seval, he] <;> (try simp (disch := omega) only [wI, wU, wC]) <;> exact rfl)) | (apply Wp.condF; (simp only [push_cast, seval, he] <;> (try simp (disch := omega) only [wI, wU, wC]) <;> exact rfl)))
        (apply Wp.ret; (try dsimp only [sQ, tQ, bQ]); apply leave0; exact rfl; (simp only [push_cast, seval, he] <;> (try simp (disch := omega) only [wI, wU, wC]) <;> exact rfl); all_goals (try simp only [push_cast, seval, he]); (try rfl))
        rw [← hk2]
  · rw [if_neg hab]
    have he : decide ((a.length : Int) = (b.length : Int)) = false := decide_eq_false (by omega)
    (refine Spec.of_body Try.func81 rfl (by rw [Try.ntmps81]; simp) 0 (by simp) ?_; rw [Try.results81, Try.ntmps81]; simp only [entry, zipArgs, Nat.reduceAdd])
    repeat (first | apply Wp.seq | apply Wp.block | (apply Run.next; (simp only [push_cast, seval, he] <;> (try simp (disch := omega) only [wI, wU, wC]) <;> exact rfl); (focus ((try simp only [push_cast, seval, he]) <;> exact sT))) | ((first | apply Run.nil | apply Wp.skip); dsimp only [sQ, tQ, bQ]) | (apply Wp.run; (dsimp only [List.map] <;> exact rfl); exact rfl) | (apply Wp.exit; dsimp only [sQ, tQ, bQ]; simp only [reduceIte]) | (apply Run.gtrue; (simp only [push_cast, seval, he] <;> (try simp (disch := omega) only [wI, wU, wC]) <;> exact rfl); (simp only [push_cast, seval, he] <;> (try simp (disch := omega) only [wI, wU, wC]) <;> exact rfl)) | (apply Run.gfalse (.bool false); (simp only [push_cast, seval, he] <;> (try simp (disch := omega) only [wI, wU, wC]) <;> exact rfl); dsimp only [S.put, optG]) | (apply Wp.condT; (simp only [push_cast, seval, he] <;> (try simp (disch := omega) only [wI, wU, wC]) <;> exact rfl)) | (apply Wp.condF; (simp only [push_cast, seval, he] <;> (try simp (disch := omega) only [wI, wU, wC]) <;> exact rfl)))
    (apply Wp.ret; (try dsimp only [sQ, tQ, bQ]); apply leave0; exact rfl; (simp only [push_cast, seval, he] <;> (try simp (disch := omega) only [wI, wU, wC]) <;> exact rfl); all_goals (try simp only [push_cast, seval, he]); (try rfl))
    congr 2
    apply propext; omega
end Go.Proofs.Try
