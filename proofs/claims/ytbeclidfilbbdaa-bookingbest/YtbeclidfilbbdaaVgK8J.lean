/- A part of the proof of BookingBest: contracts of functions, with plain laws that they need. -/
import Derived.Test.YtbeclidfilbbdaaVgEa
import Derived.Test.YtbeclidfilbbdaaVgT
import Derived.Test.YtbeclidfilbbdaaVgDm
import Derived.Test.YtbeclidfilbbdaaVgK27J
set_option linter.all false
set_option maxHeartbeats 8000000
namespace Go.Proofs.Try
open Go.Vg

theorem exSoonest_pure : Pure Try.prog 22 [houA exC exM 30, .lst 6 (exL.map bkA), bkA (exb 600)] (.tup [.int 710, .int 0]) := by
  have h1 := begin_pure exC exM 30 exL 1 (by omega) (by simp) (by simp) (by simp)
  rw [exBegin] at h1
  have h2 := exLow_pure
  have h3 := exAdd_pure
  generalize exC = cs at h1 h2 h3
  generalize exM = ms at h1 h2 h3
  generalize hL : (exL ++ [exb 710]) = L2 at h3
  generalize exL = ls at h1 h2 h3
  (refine Spec.of_body Try.func22 rfl (by rw [Try.ntmps22]; simp) 0 (by simp) ?_; rw [Try.results22, Try.ntmps22]; simp only [entry, zipArgs, Nat.reduceAdd])
  repeat (first | apply Wp.seq | apply Wp.block | (apply Run.next; (simp only [push_cast, seval] <;> (try simp (disch := omega) only [wI, wU, wC]) <;> exact rfl); (focus ((try simp only [push_cast, seval]) <;> exact sT))) | ((first | apply Run.nil | apply Wp.skip); dsimp only [sQ, tQ, bQ]) | (apply Wp.run; (dsimp only [List.map] <;> exact rfl); exact rfl) | (apply Wp.exit; dsimp only [sQ, tQ, bQ]; simp only [reduceIte]))
  (apply Run.pureP; (simp only [push_cast, seval] <;> (try simp (disch := omega) only [wI, wU, wC]) <;> exact rfl); (exact (Enters.of Try.func50 rfl rfl)); (exact h1); (focus (simp only [push_cast, seval] <;> first | trivial | assumption | (refine ⟨?_, ?_⟩ <;> assumption) | (simp; done))); (try dsimp only [putA, optG]))
  repeat (first | apply Wp.seq | apply Wp.block | (apply Run.next; (simp only [push_cast, seval] <;> (try simp (disch := omega) only [wI, wU, wC]) <;> exact rfl); (focus ((try simp only [push_cast, seval]) <;> exact sT))) | ((first | apply Run.nil | apply Wp.skip); dsimp only [sQ, tQ, bQ]) | (apply Wp.run; (dsimp only [List.map] <;> exact rfl); exact rfl) | (apply Wp.exit; dsimp only [sQ, tQ, bQ]; simp only [reduceIte]) | (apply Run.gtrue; (simp only [push_cast, seval] <;> (try simp (disch := omega) only [wI, wU, wC]) <;> exact rfl); (simp only [push_cast, seval] <;> (try simp (disch := omega) only [wI, wU, wC]) <;> exact rfl)) | (apply Run.gfalse (.bool false); (simp only [push_cast, seval] <;> (try simp (disch := omega) only [wI, wU, wC]) <;> exact rfl); dsimp only [S.put, optG]) | (apply Wp.condT; (simp only [push_cast, seval] <;> (try simp (disch := omega) only [wI, wU, wC]) <;> exact rfl)) | (apply Wp.condF; (simp only [push_cast, seval] <;> (try simp (disch := omega) only [wI, wU, wC]) <;> exact rfl)))
  refine Wp.loop (fun (q : Nat × Int) => { t := [(1, .lst 6 (ls.map bkA)), (3, .optr 0 0 0 0), (5, .optr 1 0 0 0), (9, .int (600 + (q.1 : Int)))], m := [⟨0, .row 3 [houA cs ms 30]⟩, ⟨0, .row 6 [bkA (exb q.2)]⟩], n := 37 }) (fun q => q.1 ≤ 110) (fun q => 110 - q.1) (0, 600) ?_ ?_ ?_
  · (refine Le.of ?_ ?_ rfl rfl <;> (try simp only [push_cast, seval]) <;> (try (with_reducible rfl)))
    all_goals rfl
  · simp
  · rintro ⟨k, s⟩ hk
    simp only at hk
    have e1 : decide (600 + (k : Int) ≤ 1440) = true := decide_eq_true (by omega)
    rcases Nat.lt_or_ge k 110 with hlt | hge
    · have h4 := h2 k hlt
      repeat (first | apply Wp.seq | apply Wp.block | (apply Run.next; (simp only [push_cast, seval, e1] <;> (try simp (disch := omega) only [wI, wU, wC]) <;> exact rfl); (focus ((try simp only [push_cast, seval, e1]) <;> exact sT))) | ((first | apply Run.nil | apply Wp.skip); dsimp only [sQ, tQ, bQ]) | (apply Wp.run; (dsimp only [List.map] <;> exact rfl); exact rfl) | (apply Wp.exit; dsimp only [sQ, tQ, bQ]; simp only [reduceIte]) | (apply Run.gtrue; (simp only [push_cast, seval, e1] <;> (try simp (disch := omega) only [wI, wU, wC]) <;> exact rfl); (simp only [push_cast, seval, e1] <;> (try simp (disch := omega) only [wI, wU, wC]) <;> exact rfl)) | (apply Run.gfalse (.bool false); (simp only [push_cast, seval, e1] <;> (try simp (disch := omega) only [wI, wU, wC]) <;> exact rfl); dsimp only [S.put, optG]) | (apply Wp.condT; (simp only [push_cast, seval, e1] <;> (try simp (disch := omega) only [wI, wU, wC]) <;> exact rfl)) | (apply Wp.condF; (simp only [push_cast, seval, e1] <;> (try simp (disch := omega) only [wI, wU, wC]) <;> exact rfl)))
      (apply Run.pureFP; (simp only [push_cast, seval, e1] <;> (try simp (disch := omega) only [wI, wU, wC]) <;> exact rfl); (exact (Enters.of Try.func19 rfl rfl)); (exact h4); (focus (simp only [push_cast, seval, e1] <;> first | trivial | assumption | (refine ⟨?_, ?_⟩ <;> assumption) | (simp; done))); (try dsimp only [putA, optG]))
      repeat (first | apply Wp.seq | apply Wp.block | (apply Run.next; (simp only [push_cast, seval, e1] <;> (try simp (disch := omega) only [wI, wU, wC]) <;> exact rfl); (focus ((try simp only [push_cast, seval, e1]) <;> exact sT))) | ((first | apply Run.nil | apply Wp.skip); dsimp only [sQ, tQ, bQ]) | (apply Wp.run; (dsimp only [List.map] <;> exact rfl); exact rfl) | (apply Wp.exit; dsimp only [sQ, tQ, bQ]; simp only [reduceIte]) | (apply Run.gtrue; (simp only [push_cast, seval, e1] <;> (try simp (disch := omega) only [wI, wU, wC]) <;> exact rfl); (simp only [push_cast, seval, e1] <;> (try simp (disch := omega) only [wI, wU, wC]) <;> exact rfl)) | (apply Run.gfalse (.bool false); (simp only [push_cast, seval, e1] <;> (try simp (disch := omega) only [wI, wU, wC]) <;> exact rfl); dsimp only [S.put, optG]) | (apply Wp.condT; (simp only [push_cast, seval, e1] <;> (try simp (disch := omega) only [wI, wU, wC]) <;> exact rfl)) | (apply Wp.condF; (simp only [push_cast, seval, e1] <;> (try simp (disch := omega) only [wI, wU, wC]) <;> exact rfl)))
      refine ⟨(k + 1, 600 + (k : Int)), ?_, by simp only; omega, by simp only; omega⟩
      (refine Le.of ?_ ?_ rfl rfl <;> (try simp only [push_cast, seval, e1]) <;> (try (with_reducible rfl)))
      all_goals first
        | rfl
        | (rw [Int.add_assoc]; rfl)
        | (rw [← Int.add_assoc]; rfl)
    · have hk' : 600 + (k : Int) = 710 := by omega
      rw [← hk'] at h3
      repeat (first | apply Wp.seq | apply Wp.block | (apply Run.next; (simp only [push_cast, seval, e1] <;> (try simp (disch := omega) only [wI, wU, wC]) <;> exact rfl); (focus ((try simp only [push_cast, seval, e1]) <;> exact sT))) | ((first | apply Run.nil | apply Wp.skip); dsimp only [sQ, tQ, bQ]) | (apply Wp.run; (dsimp only [List.map] <;> exact rfl); exact rfl) | (apply Wp.exit; dsimp only [sQ, tQ, bQ]; simp only [reduceIte]) | (apply Run.gtrue; (simp only [push_cast, seval, e1] <;> (try simp (disch := omega) only [wI, wU, wC]) <;> exact rfl); (simp only [push_cast, seval, e1] <;> (try simp (disch := omega) only [wI, wU, wC]) <;> exact rfl)) | (apply Run.gfalse (.bool false); (simp only [push_cast, seval, e1] <;> (try simp (disch := omega) only [wI, wU, wC]) <;> exact rfl); dsimp only [S.put, optG]) | (apply Wp.condT; (simp only [push_cast, seval, e1] <;> (try simp (disch := omega) only [wI, wU, wC]) <;> exact rfl)) | (apply Wp.condF; (simp only [push_cast, seval, e1] <;> (try simp (disch := omega) only [wI, wU, wC]) <;> exact rfl)))
      (apply Run.pureFP; (simp only [push_cast, seval, e1] <;> (try simp (disch := omega) only [wI, wU, wC]) <;> exact rfl); (exact (Enters.of Try.func19 rfl rfl)); (exact h3); (focus (simp only [push_cast, seval, e1] <;> first | trivial | assumption | (refine ⟨?_, ?_⟩ <;> assumption) | (simp; done))); (try dsimp only [putA, optG]))
      repeat (first | apply Wp.seq | apply Wp.block | (apply Run.next; (simp only [push_cast, seval, e1] <;> (try simp (disch := omega) only [wI, wU, wC]) <;> exact rfl); (focus ((try simp only [push_cast, seval, e1]) <;> exact sT))) | ((first | apply Run.nil | apply Wp.skip); dsimp only [sQ, tQ, bQ]) | (apply Wp.run; (dsimp only [List.map] <;> exact rfl); exact rfl) | (apply Wp.exit; dsimp only [sQ, tQ, bQ]; simp only [reduceIte]) | (apply Run.gtrue; (simp only [push_cast, seval, e1] <;> (try simp (disch := omega) only [wI, wU, wC]) <;> exact rfl); (simp only [push_cast, seval, e1] <;> (try simp (disch := omega) only [wI, wU, wC]) <;> exact rfl)) | (apply Run.gfalse (.bool false); (simp only [push_cast, seval, e1] <;> (try simp (disch := omega) only [wI, wU, wC]) <;> exact rfl); dsimp only [S.put, optG]) | (apply Wp.condT; (simp only [push_cast, seval, e1] <;> (try simp (disch := omega) only [wI, wU, wC]) <;> exact rfl)) | (apply Wp.condF; (simp only [push_cast, seval, e1] <;> (try simp (disch := omega) only [wI, wU, wC]) <;> exact rfl)))
      (apply Wp.ret; (try dsimp only [sQ, tQ, bQ]); apply leave0; exact rfl; (simp only [push_cast, seval, e1] <;> (try simp (disch := omega) only [wI, wU, wC]) <;> exact rfl); all_goals (try simp only [push_cast, seval, e1]); (try rfl))
      rw [hk']
theorem works_pure : Pure Try.prog 18 [] (.bool true) := by
  have h1 := example_pure
  have h2 := exStaff_pure
  have h3 := exSoonest_pure
  have h4 := sameInts_same [0, 1]
  generalize exC = cs at h1 h2 h3
  generalize exM = ms at h1 h2 h3
  generalize exL = ls at h1 h2 h3
  (refine Spec.of_body Try.func18 rfl (by rw [Try.ntmps18]; simp) 0 (by simp) ?_; rw [Try.results18, Try.ntmps18]; simp only [entry, zipArgs, Nat.reduceAdd])
  repeat (first | apply Wp.seq | apply Wp.block | (apply Run.next; (simp only [push_cast, seval] <;> (try simp (disch := omega) only [wI, wU, wC]) <;> exact rfl); (focus ((try simp only [push_cast, seval]) <;> exact sT))) | ((first | apply Run.nil | apply Wp.skip); dsimp only [sQ, tQ, bQ]) | (apply Wp.run; (dsimp only [List.map] <;> exact rfl); exact rfl) | (apply Wp.exit; dsimp only [sQ, tQ, bQ]; simp only [reduceIte]))
  (apply Run.pureFP; (simp only [push_cast, seval] <;> (try simp (disch := omega) only [wI, wU, wC]) <;> exact rfl); (exact (Enters.of Try.func49 rfl rfl)); (exact h1); (focus (simp only [push_cast, seval] <;> first | trivial | assumption | (refine ⟨?_, ?_⟩ <;> assumption) | (simp; done))); (try dsimp only [putA, optG]))
  repeat (first | apply Wp.seq | apply Wp.block | (apply Run.next; (simp only [push_cast, seval] <;> (try simp (disch := omega) only [wI, wU, wC]) <;> exact rfl); (focus ((try simp only [push_cast, seval]) <;> exact sT))) | ((first | apply Run.nil | apply Wp.skip); dsimp only [sQ, tQ, bQ]) | (apply Wp.run; (dsimp only [List.map] <;> exact rfl); exact rfl) | (apply Wp.exit; dsimp only [sQ, tQ, bQ]; simp only [reduceIte]))
  (apply Run.pureFP; (simp only [push_cast, seval] <;> (try simp (disch := omega) only [wI, wU, wC]) <;> exact rfl); (exact (Enters.of Try.func30 rfl rfl)); (exact h2); (focus (simp only [push_cast, seval] <;> first | trivial | assumption | (refine ⟨?_, ?_⟩ <;> assumption) | (simp; done))); (try dsimp only [putA, optG]))
  repeat (first | apply Wp.seq | apply Wp.block | (apply Run.next; (simp only [push_cast, seval] <;> (try simp (disch := omega) only [wI, wU, wC]) <;> exact rfl); (focus ((try simp only [push_cast, seval]) <;> exact sT))) | ((first | apply Run.nil | apply Wp.skip); dsimp only [sQ, tQ, bQ]) | (apply Wp.run; (dsimp only [List.map] <;> exact rfl); exact rfl) | (apply Wp.exit; dsimp only [sQ, tQ, bQ]; simp only [reduceIte]))
  (apply Run.pureFP; (simp only [push_cast, seval] <;> (try simp (disch := omega) only [wI, wU, wC]) <;> exact rfl); (exact (Enters.of Try.func22 rfl rfl)); (exact h3); (focus (simp only [push_cast, seval] <;> first | trivial | assumption | (refine ⟨?_, ?_⟩ <;> assumption) | (simp; done))); (try dsimp only [putA, optG]))
  repeat (first | apply Wp.seq | apply Wp.block | (apply Run.next; (simp only [push_cast, seval] <;> (try simp (disch := omega) only [wI, wU, wC]) <;> exact rfl); (focus ((try simp only [push_cast, seval]) <;> exact sT))) | ((first | apply Run.nil | apply Wp.skip); dsimp only [sQ, tQ, bQ]) | (apply Wp.run; (dsimp only [List.map] <;> exact rfl); exact rfl) | (apply Wp.exit; dsimp only [sQ, tQ, bQ]; simp only [reduceIte]) | (apply Run.gtrue; (simp only [push_cast, seval] <;> (try simp (disch := omega) only [wI, wU, wC]) <;> exact rfl); (simp only [push_cast, seval] <;> (try simp (disch := omega) only [wI, wU, wC]) <;> exact rfl)) | (apply Run.gfalse (.bool false); (simp only [push_cast, seval] <;> (try simp (disch := omega) only [wI, wU, wC]) <;> exact rfl); dsimp only [S.put, optG]) | (apply Wp.condT; (simp only [push_cast, seval] <;> (try simp (disch := omega) only [wI, wU, wC]) <;> exact rfl)) | (apply Wp.condF; (simp only [push_cast, seval] <;> (try simp (disch := omega) only [wI, wU, wC]) <;> exact rfl)))
  (apply Run.pureP; (simp only [push_cast, seval] <;> (try simp (disch := omega) only [wI, wU, wC]) <;> exact rfl); (exact (Enters.of Try.func32 rfl rfl)); (exact h4); (focus (simp only [push_cast, seval] <;> first | trivial | assumption | (refine ⟨?_, ?_⟩ <;> assumption) | (simp; done))); (try dsimp only [putA, optG]))
  repeat (first | apply Wp.seq | apply Wp.block | (apply Run.next; (simp only [push_cast, seval] <;> (try simp (disch := omega) only [wI, wU, wC]) <;> exact rfl); (focus ((try simp only [push_cast, seval]) <;> exact sT))) | ((first | apply Run.nil | apply Wp.skip); dsimp only [sQ, tQ, bQ]) | (apply Wp.run; (dsimp only [List.map] <;> exact rfl); exact rfl) | (apply Wp.exit; dsimp only [sQ, tQ, bQ]; simp only [reduceIte]) | (apply Run.gtrue; (simp only [push_cast, seval] <;> (try simp (disch := omega) only [wI, wU, wC]) <;> exact rfl); (simp only [push_cast, seval] <;> (try simp (disch := omega) only [wI, wU, wC]) <;> exact rfl)) | (apply Run.gfalse (.bool false); (simp only [push_cast, seval] <;> (try simp (disch := omega) only [wI, wU, wC]) <;> exact rfl); dsimp only [S.put, optG]) | (apply Wp.condT; (simp only [push_cast, seval] <;> (try simp (disch := omega) only [wI, wU, wC]) <;> exact rfl)) | (apply Wp.condF; (simp only [push_cast, seval] <;> (try simp (disch := omega) only [wI, wU, wC]) <;> exact rfl)))
  (apply Wp.ret; (try dsimp only [sQ, tQ, bQ]); apply leave0; exact rfl; (simp only [push_cast, seval] <;> (try simp (disch := omega) only [wI, wU, wC]) <;> exact rfl); all_goals (try simp only [push_cast, seval]); (try rfl))
end Go.Proofs.Try
set_option maxHeartbeats 8000000
namespace Go.Proofs.Try
open Go.Vg
end Go.Proofs.Try
set_option maxHeartbeats 8000000
set_option maxRecDepth 20000
namespace Go.Proofs.Try
open Go.Vg

end Go.Proofs.Try
set_option maxHeartbeats 8000000
namespace Go.Proofs.Try
open Go.Vg
def lgB (cs : List Ch) (ms : List Ma) (ls : List Bk) : Bool := (decide (8 < (ls.length : Int)) && decide ((ls.length : Int) ≤ 20)) || (decide (4 < (ms.length : Int)) && decide ((ms.length : Int) ≤ 6))
theorem large_pure (cs : List Ch) (ms : List Ma) (cake : Int) (ls : List Bk) (hm : ms.length ≤ 9223372036854775807) (hl : ls.length ≤ 9223372036854775807) : Pure Try.prog 17 [houA cs ms cake, .lst 6 (ls.map bkA)] (.bool (lgB cs ms ls)) := by
  (refine Spec.of_body Try.func17 rfl (by rw [Try.ntmps17]; simp) 0 (by simp) ?_; rw [Try.results17, Try.ntmps17]; simp only [entry, zipArgs, Nat.reduceAdd])
  repeat (first | apply Wp.seq | apply Wp.block | (apply Run.next; (simp only [push_cast, seval] <;> (try simp (disch := omega) only [wI, wU, wC]) <;> exact rfl); (focus ((try simp only [push_cast, seval]) <;> exact sT))) | ((first | apply Run.nil | apply Wp.skip); dsimp only [sQ, tQ, bQ]) | (apply Wp.run; (dsimp only [List.map] <;> exact rfl); exact rfl) | (apply Wp.exit; dsimp only [sQ, tQ, bQ]; simp only [reduceIte]))
  (apply Wp.ret; (try dsimp only [sQ, tQ, bQ]); apply leave0; exact rfl; (simp only [push_cast, seval] <;> (try simp (disch := omega) only [wI, wU, wC]) <;> exact rfl); all_goals (try simp only [push_cast, seval]); (try rfl))
end Go.Proofs.Try
set_option maxHeartbeats 8000000
set_option maxRecDepth 20000
namespace Go.Proofs.Try
open Go.Vg

/-! two that play against each other -/
end Go.Proofs.Try
set_option maxHeartbeats 8000000
set_option maxRecDepth 20000
namespace Go.Proofs.Try
open Go.Vg

/-! the first right staff -/
def sI (n : Nat) (a : Nat → Nat) (i : Nat) : List Int := aL i a ++ List.replicate (n - i) (-1)
theorem sI_len {n i : Nat} (a : Nat → Nat) (h : i ≤ n) : (sI n a i).length = n := by simp [sI, aL_len]; omega
theorem sI_lo {n i j : Nat} (a : Nat → Nat) (h : j < i) : (sI n a i).getD j 0 = (a j : Int) := by
  have h1 := aL_get (k := i) a h
  have h2 := aL_len i a
  simp only [sI, List.getD_eq_getElem?_getD] at *
  rw [List.getElem?_append_left (by omega)]; exact h1
theorem sI_hi {n i j : Nat} (a : Nat → Nat) (h : i ≤ j) (hj : j < n) : (sI n a i).getD j 0 = -1 := by
  have h2 := aL_len i a
  simp only [sI, List.getD_eq_getElem?_getD]
  rw [List.getElem?_append_right (by omega), h2, List.getElem?_replicate, if_pos (by omega)]; rfl
theorem sI_set {n i : Nat} (a : Nat → Nat) (h : i < n) : (sI n a i).set i (a i : Int) = sI n a (i + 1) := by
  have h2 := aL_len i a
  unfold sI
  rw [List.set_append_right _ _ (by omega), h2, Nat.sub_self, aL_succ]
  obtain ⟨j, hj⟩ : ∃ j, n - i = j + 1 := ⟨n - i - 1, by omega⟩
  rw [hj, List.replicate_succ, List.set_cons_zero, show n - (i + 1) = j by omega]
  simp
theorem sI_all (n : Nat) (a : Nat → Nat) : sI n a n = aL n a := by simp [sI]
theorem sI_0 (n : Nat) (a : Nat → Nat) : sI n a 0 = List.replicate n (-1) := by simp [sI, aL]
theorem getD_set_ne (l : List Int) {i j : Nat} (z : Int) (h : i ≠ j) : (l.set i z).getD j 0 = l.getD j 0 := by
  simp only [List.getD_eq_getElem?_getD]; rw [List.getElem?_set_ne h]
theorem poss_at {cs : List Ch} {ms : List Ma} {cake : Int} {ls : List Bk} (h : PW cs ms cake ls) {o : List Nat} (ho : OV ls o) {a : Nat → Nat} (ha : VA cs ms ls a) (hx : ∀ a2, VA cs ms ls a2 → Lx ls.length a a2) {i v : Nat} (hi : i < ls.length) (hv : v ≤ a i) :
    rF cs ms ls ((sI ls.length a i).set i (v : Int)) o Z6 = decide (v = a i) := by
  have hl := sI_len a (Nat.le_of_lt hi)
  have hlo : ∀ j, j < i → ((sI ls.length a i).set i (v : Int)).getD j 0 = (a j : Int) := fun j hj => by
    rw [getD_set_ne _ _ (by omega), sI_lo a hj]
  have hme : ((sI ls.length a i).set i (v : Int)).getD i 0 = (v : Int) := getD_set_self _ _ _ (by omega)
  have hhi : ∀ j, i < j → j < ls.length → ((sI ls.length a i).set i (v : Int)).getD j 0 = -1 := fun j hj hj2 => by
    rw [getD_set_ne _ _ (by omega), sI_hi a (by omega) hj2]
  rw [Bool.eq_iff_iff, rota_iff h.hv.m6 h.hen ho, decide_eq_true_eq]
  constructor
  · rintro ⟨a2, h1, h2⟩
    have e1 : ∀ j, j < i → a j = a2 j := fun j hj => by
      have := h2 j (by omega) (by rw [hlo j hj]; omega)
      rw [hlo j hj] at this; omega
    have e2 := h2 i hi (by rw [hme]; omega)
    rw [hme] at e2
    have := hx a2 h1 i hi e1
    omega
  · rintro rfl
    refine ⟨a, ha, fun j hj h0 => ?_⟩
    rcases Nat.lt_trichotomy j i with h1 | h1 | h1
    · exact hlo j h1
    · subst h1; exact hme
    · rw [hhi j h1 hj] at h0; omega
def sfE (cs : List Ch) (ms : List Ma) (cake : Int) (ls : List Bk) : Int := if ckE cs ms cake ls = 0 then edE cs ms cake ls else ckE cs ms cake ls
def sfA (cs : List Ch) (ms : List Ma) (cake : Int) (ls : List Bk) : AV := if sfE cs ms cake ls = 0 then stA (stR cs ms ls ls.length []) else .emp
theorem Staff_pure (cs : List Ch) (ms : List Ma) (cake : Int) (ls : List Bk) (hc : cs.length ≤ 9223372036854775807) (hm : ms.length ≤ 9223372036854775807) (hl : ls.length ≤ 9223372036854775807) : Pure Try.prog 30 [houA cs ms cake, .lst 6 (ls.map bkA)] (.tup [sfA cs ms cake ls, .int (sfE cs ms cake ls)]) := by
  have hck := check_pure cs ms cake ls hc hm hl
  unfold sfA sfE
  by_cases h1 : ckE cs ms cake ls = 0
  · rw [if_pos h1]
    rw [h1] at hck
    have hpw := PW.of_ck h1
    have hf := fits_pure hpw.hv hpw.lv
    unfold edE
    cases h2 : fitB cs cake ls with
    | false =>
      rw [h2] at hf
      rw [if_neg (by simp)]
      (refine Spec.of_body Try.func30 rfl (by rw [Try.ntmps30]; simp) 0 (by simp) ?_; rw [Try.results30, Try.ntmps30]; simp only [entry, zipArgs, Nat.reduceAdd])
      repeat (first | apply Wp.seq | apply Wp.block | (apply Run.next; (simp only [push_cast, seval] <;> (try simp (disch := omega) only [wI, wU, wC]) <;> exact rfl); (focus ((try simp only [push_cast, seval]) <;> exact sT))) | ((first | apply Run.nil | apply Wp.skip); dsimp only [sQ, tQ, bQ]) | (apply Wp.run; (dsimp only [List.map] <;> exact rfl); exact rfl) | (apply Wp.exit; dsimp only [sQ, tQ, bQ]; simp only [reduceIte]))
      (apply Run.pureP; (simp only [push_cast, seval] <;> (try simp (disch := omega) only [wI, wU, wC]) <;> exact rfl); (exact (Enters.of Try.func39 rfl rfl)); (exact hck); (focus (simp only [push_cast, seval] <;> first | trivial | assumption | (refine ⟨?_, ?_⟩ <;> assumption) | (simp; done))); (try dsimp only [putA, optG]))
      repeat (first | apply Wp.seq | apply Wp.block | (apply Run.next; (simp only [push_cast, seval] <;> (try simp (disch := omega) only [wI, wU, wC]) <;> exact rfl); (focus ((try simp only [push_cast, seval]) <;> exact sT))) | ((first | apply Run.nil | apply Wp.skip); dsimp only [sQ, tQ, bQ]) | (apply Wp.run; (dsimp only [List.map] <;> exact rfl); exact rfl) | (apply Wp.exit; dsimp only [sQ, tQ, bQ]; simp only [reduceIte]) | (apply Run.gtrue; (simp only [push_cast, seval] <;> (try simp (disch := omega) only [wI, wU, wC]) <;> exact rfl); (simp only [push_cast, seval] <;> (try simp (disch := omega) only [wI, wU, wC]) <;> exact rfl)) | (apply Run.gfalse (.bool false); (simp only [push_cast, seval] <;> (try simp (disch := omega) only [wI, wU, wC]) <;> exact rfl); dsimp only [S.put, optG]) | (apply Wp.condT; (simp only [push_cast, seval] <;> (try simp (disch := omega) only [wI, wU, wC]) <;> exact rfl)) | (apply Wp.condF; (simp only [push_cast, seval] <;> (try simp (disch := omega) only [wI, wU, wC]) <;> exact rfl)))
      (apply Run.pureP; (simp only [push_cast, seval] <;> (try simp (disch := omega) only [wI, wU, wC]) <;> exact rfl); (exact (Enters.of Try.func57 rfl rfl)); (exact hf); (focus (simp only [push_cast, seval] <;> first | trivial | assumption | (refine ⟨?_, ?_⟩ <;> assumption) | (simp; done))); (try dsimp only [putA, optG]))
      repeat (first | apply Wp.seq | apply Wp.block | (apply Run.next; (simp only [push_cast, seval] <;> (try simp (disch := omega) only [wI, wU, wC]) <;> exact rfl); (focus ((try simp only [push_cast, seval]) <;> exact sT))) | ((first | apply Run.nil | apply Wp.skip); dsimp only [sQ, tQ, bQ]) | (apply Wp.run; (dsimp only [List.map] <;> exact rfl); exact rfl) | (apply Wp.exit; dsimp only [sQ, tQ, bQ]; simp only [reduceIte]) | (apply Run.gtrue; (simp only [push_cast, seval] <;> (try simp (disch := omega) only [wI, wU, wC]) <;> exact rfl); (simp only [push_cast, seval] <;> (try simp (disch := omega) only [wI, wU, wC]) <;> exact rfl)) | (apply Run.gfalse (.bool false); (simp only [push_cast, seval] <;> (try simp (disch := omega) only [wI, wU, wC]) <;> exact rfl); dsimp only [S.put, optG]) | (apply Wp.condT; (simp only [push_cast, seval] <;> (try simp (disch := omega) only [wI, wU, wC]) <;> exact rfl)) | (apply Wp.condF; (simp only [push_cast, seval] <;> (try simp (disch := omega) only [wI, wU, wC]) <;> exact rfl)))
      (apply Wp.ret; (try dsimp only [sQ, tQ, bQ]); apply leave0; exact rfl; (simp only [push_cast, seval] <;> (try simp (disch := omega) only [wI, wU, wC]) <;> exact rfl); all_goals (try simp only [push_cast, seval]); (try rfl))
    | true =>
      rw [h2] at hf
      rw [if_pos rfl]
      have hnr := newRota_spec2 hpw
      have hl20 := hpw.lv.l20
      cases h3 : psB cs ms ls with
      | false =>
        rw [if_neg (by simp)]
        (refine Spec.of_body Try.func30 rfl (by rw [Try.ntmps30]; simp) 0 (by simp) ?_; rw [Try.results30, Try.ntmps30]; simp only [entry, zipArgs, Nat.reduceAdd])
        repeat (first | apply Wp.seq | apply Wp.block | (apply Run.next; (simp only [push_cast, seval] <;> (try simp (disch := omega) only [wI, wU, wC]) <;> exact rfl); (focus ((try simp only [push_cast, seval]) <;> exact sT))) | ((first | apply Run.nil | apply Wp.skip); dsimp only [sQ, tQ, bQ]) | (apply Wp.run; (dsimp only [List.map] <;> exact rfl); exact rfl) | (apply Wp.exit; dsimp only [sQ, tQ, bQ]; simp only [reduceIte]))
        (apply Run.pureP; (simp only [push_cast, seval] <;> (try simp (disch := omega) only [wI, wU, wC]) <;> exact rfl); (exact (Enters.of Try.func39 rfl rfl)); (exact hck); (focus (simp only [push_cast, seval] <;> first | trivial | assumption | (refine ⟨?_, ?_⟩ <;> assumption) | (simp; done))); (try dsimp only [putA, optG]))
        repeat (first | apply Wp.seq | apply Wp.block | (apply Run.next; (simp only [push_cast, seval] <;> (try simp (disch := omega) only [wI, wU, wC]) <;> exact rfl); (focus ((try simp only [push_cast, seval]) <;> exact sT))) | ((first | apply Run.nil | apply Wp.skip); dsimp only [sQ, tQ, bQ]) | (apply Wp.run; (dsimp only [List.map] <;> exact rfl); exact rfl) | (apply Wp.exit; dsimp only [sQ, tQ, bQ]; simp only [reduceIte]) | (apply Run.gtrue; (simp only [push_cast, seval] <;> (try simp (disch := omega) only [wI, wU, wC]) <;> exact rfl); (simp only [push_cast, seval] <;> (try simp (disch := omega) only [wI, wU, wC]) <;> exact rfl)) | (apply Run.gfalse (.bool false); (simp only [push_cast, seval] <;> (try simp (disch := omega) only [wI, wU, wC]) <;> exact rfl); dsimp only [S.put, optG]) | (apply Wp.condT; (simp only [push_cast, seval] <;> (try simp (disch := omega) only [wI, wU, wC]) <;> exact rfl)) | (apply Wp.condF; (simp only [push_cast, seval] <;> (try simp (disch := omega) only [wI, wU, wC]) <;> exact rfl)))
        (apply Run.pureP; (simp only [push_cast, seval] <;> (try simp (disch := omega) only [wI, wU, wC]) <;> exact rfl); (exact (Enters.of Try.func57 rfl rfl)); (exact hf); (focus (simp only [push_cast, seval] <;> first | trivial | assumption | (refine ⟨?_, ?_⟩ <;> assumption) | (simp; done))); (try dsimp only [putA, optG]))
        repeat (first | apply Wp.seq | apply Wp.block | (apply Run.next; (simp only [push_cast, seval] <;> (try simp (disch := omega) only [wI, wU, wC]) <;> exact rfl); (focus ((try simp only [push_cast, seval]) <;> exact sT))) | ((first | apply Run.nil | apply Wp.skip); dsimp only [sQ, tQ, bQ]) | (apply Wp.run; (dsimp only [List.map] <;> exact rfl); exact rfl) | (apply Wp.exit; dsimp only [sQ, tQ, bQ]; simp only [reduceIte]) | (apply Run.gtrue; (simp only [push_cast, seval] <;> (try simp (disch := omega) only [wI, wU, wC]) <;> exact rfl); (simp only [push_cast, seval] <;> (try simp (disch := omega) only [wI, wU, wC]) <;> exact rfl)) | (apply Run.gfalse (.bool false); (simp only [push_cast, seval] <;> (try simp (disch := omega) only [wI, wU, wC]) <;> exact rfl); dsimp only [S.put, optG]) | (apply Wp.condT; (simp only [push_cast, seval] <;> (try simp (disch := omega) only [wI, wU, wC]) <;> exact rfl)) | (apply Wp.condF; (simp only [push_cast, seval] <;> (try simp (disch := omega) only [wI, wU, wC]) <;> exact rfl)))
        apply Run.fresh (he := Enters.of Try.func59 rfl rfl) (hc := hnr)
        · exact rfl
        · (simp only [push_cast, seval] <;> (try simp (disch := omega) only [wI, wU, wC]) <;> exact rfl)
        · simp [AV.ok, okL, okL_ch, okL_ma, okL_bk]
        · rintro _ _ ⟨rfl, o, ho, rfl⟩
          have hp := possible1_spec hpw ho (stf := List.replicate ls.length (-1)) (by simp) (e0 := ⟨0, .row 3 [houA cs ms cake]⟩) (x6 := .emp) (fun k => by simp [Kind.ok, AV.ok, okL, okL_ch, okL_ma])
          rw [psB_rF hpw ho, h3] at hp
          rw [rotM_shift]
          dsimp only [S.put, optG]
          repeat (first | apply Wp.seq | apply Wp.block | (apply Run.next; (simp only [push_cast, seval] <;> (try simp (disch := omega) only [wI, wU, wC]) <;> exact rfl); (focus ((try simp only [push_cast, seval]) <;> exact sT))) | ((first | apply Run.nil | apply Wp.skip); dsimp only [sQ, tQ, bQ]) | (apply Wp.run; (dsimp only [List.map] <;> exact rfl); exact rfl) | (apply Wp.exit; dsimp only [sQ, tQ, bQ]; simp only [reduceIte]) | (apply Run.gtrue; (simp only [push_cast, seval] <;> (try simp (disch := omega) only [wI, wU, wC]) <;> exact rfl); (simp only [push_cast, seval] <;> (try simp (disch := omega) only [wI, wU, wC]) <;> exact rfl)) | (apply Run.gfalse (.bool false); (simp only [push_cast, seval] <;> (try simp (disch := omega) only [wI, wU, wC]) <;> exact rfl); dsimp only [S.put, optG]) | (apply Wp.condT; (simp only [push_cast, seval] <;> (try simp (disch := omega) only [wI, wU, wC]) <;> exact rfl)) | (apply Wp.condF; (simp only [push_cast, seval] <;> (try simp (disch := omega) only [wI, wU, wC]) <;> exact rfl)))
          apply Run.spec (he := Enters.of Try.func60 rfl rfl) (hc := hp)
          · exact rfl
          · exact rfl
          · (simp only [push_cast, seval] <;> (try simp (disch := omega) only [wI, wU, wC]) <;> exact rfl)
          · rintro _ _ ⟨rfl, rfl⟩
            dsimp only [S.put, optG]
            repeat (first | apply Wp.seq | apply Wp.block | (apply Run.next; (simp only [push_cast, seval] <;> (try simp (disch := omega) only [wI, wU, wC]) <;> exact rfl); (focus ((try simp only [push_cast, seval]) <;> exact sT))) | ((first | apply Run.nil | apply Wp.skip); dsimp only [sQ, tQ, bQ]) | (apply Wp.run; (dsimp only [List.map] <;> exact rfl); exact rfl) | (apply Wp.exit; dsimp only [sQ, tQ, bQ]; simp only [reduceIte]) | (apply Run.gtrue; (simp only [push_cast, seval] <;> (try simp (disch := omega) only [wI, wU, wC]) <;> exact rfl); (simp only [push_cast, seval] <;> (try simp (disch := omega) only [wI, wU, wC]) <;> exact rfl)) | (apply Run.gfalse (.bool false); (simp only [push_cast, seval] <;> (try simp (disch := omega) only [wI, wU, wC]) <;> exact rfl); dsimp only [S.put, optG]) | (apply Wp.condT; (simp only [push_cast, seval] <;> (try simp (disch := omega) only [wI, wU, wC]) <;> exact rfl)) | (apply Wp.condF; (simp only [push_cast, seval] <;> (try simp (disch := omega) only [wI, wU, wC]) <;> exact rfl)))
            (apply Wp.ret; (try dsimp only [sQ, tQ, bQ]); apply leave0; exact rfl; (simp only [push_cast, seval] <;> (try simp (disch := omega) only [wI, wU, wC]) <;> exact rfl); all_goals (try simp only [push_cast, seval]); (try rfl))
      | true =>
        rw [if_pos rfl, if_pos rfl]
        have h3' := h3
        unfold psB at h3'
        cases hst : stR cs ms ls ls.length [] with
        | none => rw [hst] at h3'; cases h3'
        | some s =>
          obtain ⟨a, ha, hs, hx⟩ := stR_some hst
          have ham : ∀ i, i < ls.length → a i < ms.length := fun i hi => (ha.ok i hi).1
          have hm6 := hpw.hv.m6
          (refine Spec.of_body Try.func30 rfl (by rw [Try.ntmps30]; simp) 0 (by simp) ?_; rw [Try.results30, Try.ntmps30]; simp only [entry, zipArgs, Nat.reduceAdd])
          repeat (first | apply Wp.seq | apply Wp.block | (apply Run.next; (simp only [push_cast, seval] <;> (try simp (disch := omega) only [wI, wU, wC]) <;> exact rfl); (focus ((try simp only [push_cast, seval]) <;> exact sT))) | ((first | apply Run.nil | apply Wp.skip); dsimp only [sQ, tQ, bQ]) | (apply Wp.run; (dsimp only [List.map] <;> exact rfl); exact rfl) | (apply Wp.exit; dsimp only [sQ, tQ, bQ]; simp only [reduceIte]))
          (apply Run.pureP; (simp only [push_cast, seval] <;> (try simp (disch := omega) only [wI, wU, wC]) <;> exact rfl); (exact (Enters.of Try.func39 rfl rfl)); (exact hck); (focus (simp only [push_cast, seval] <;> first | trivial | assumption | (refine ⟨?_, ?_⟩ <;> assumption) | (simp; done))); (try dsimp only [putA, optG]))
          repeat (first | apply Wp.seq | apply Wp.block | (apply Run.next; (simp only [push_cast, seval] <;> (try simp (disch := omega) only [wI, wU, wC]) <;> exact rfl); (focus ((try simp only [push_cast, seval]) <;> exact sT))) | ((first | apply Run.nil | apply Wp.skip); dsimp only [sQ, tQ, bQ]) | (apply Wp.run; (dsimp only [List.map] <;> exact rfl); exact rfl) | (apply Wp.exit; dsimp only [sQ, tQ, bQ]; simp only [reduceIte]) | (apply Run.gtrue; (simp only [push_cast, seval] <;> (try simp (disch := omega) only [wI, wU, wC]) <;> exact rfl); (simp only [push_cast, seval] <;> (try simp (disch := omega) only [wI, wU, wC]) <;> exact rfl)) | (apply Run.gfalse (.bool false); (simp only [push_cast, seval] <;> (try simp (disch := omega) only [wI, wU, wC]) <;> exact rfl); dsimp only [S.put, optG]) | (apply Wp.condT; (simp only [push_cast, seval] <;> (try simp (disch := omega) only [wI, wU, wC]) <;> exact rfl)) | (apply Wp.condF; (simp only [push_cast, seval] <;> (try simp (disch := omega) only [wI, wU, wC]) <;> exact rfl)))
          (apply Run.pureP; (simp only [push_cast, seval] <;> (try simp (disch := omega) only [wI, wU, wC]) <;> exact rfl); (exact (Enters.of Try.func57 rfl rfl)); (exact hf); (focus (simp only [push_cast, seval] <;> first | trivial | assumption | (refine ⟨?_, ?_⟩ <;> assumption) | (simp; done))); (try dsimp only [putA, optG]))
          repeat (first | apply Wp.seq | apply Wp.block | (apply Run.next; (simp only [push_cast, seval] <;> (try simp (disch := omega) only [wI, wU, wC]) <;> exact rfl); (focus ((try simp only [push_cast, seval]) <;> exact sT))) | ((first | apply Run.nil | apply Wp.skip); dsimp only [sQ, tQ, bQ]) | (apply Wp.run; (dsimp only [List.map] <;> exact rfl); exact rfl) | (apply Wp.exit; dsimp only [sQ, tQ, bQ]; simp only [reduceIte]) | (apply Run.gtrue; (simp only [push_cast, seval] <;> (try simp (disch := omega) only [wI, wU, wC]) <;> exact rfl); (simp only [push_cast, seval] <;> (try simp (disch := omega) only [wI, wU, wC]) <;> exact rfl)) | (apply Run.gfalse (.bool false); (simp only [push_cast, seval] <;> (try simp (disch := omega) only [wI, wU, wC]) <;> exact rfl); dsimp only [S.put, optG]) | (apply Wp.condT; (simp only [push_cast, seval] <;> (try simp (disch := omega) only [wI, wU, wC]) <;> exact rfl)) | (apply Wp.condF; (simp only [push_cast, seval] <;> (try simp (disch := omega) only [wI, wU, wC]) <;> exact rfl)))
          apply Run.fresh (he := Enters.of Try.func59 rfl rfl) (hc := hnr)
          · exact rfl
          · (simp only [push_cast, seval] <;> (try simp (disch := omega) only [wI, wU, wC]) <;> exact rfl)
          · simp [AV.ok, okL, okL_ch, okL_ma, okL_bk]
          · rintro _ _ ⟨rfl, o, ho, rfl⟩
            have he0 : ∀ k, Kind.ok k (⟨0, .row 3 [houA cs ms cake]⟩ : Ent).kind := fun k => by simp [Kind.ok, AV.ok, okL, okL_ch, okL_ma]
            have hp := possible1_spec hpw ho (stf := List.replicate ls.length (-1)) (by simp) (e0 := ⟨0, .row 3 [houA cs ms cake]⟩) (x6 := .emp) he0
            rw [psB_rF hpw ho, h3] at hp
            rw [rotM_shift]
            dsimp only [S.put, optG]
            repeat (first | apply Wp.seq | apply Wp.block | (apply Run.next; (simp only [push_cast, seval] <;> (try simp (disch := omega) only [wI, wU, wC]) <;> exact rfl); (focus ((try simp only [push_cast, seval]) <;> exact sT))) | ((first | apply Run.nil | apply Wp.skip); dsimp only [sQ, tQ, bQ]) | (apply Wp.run; (dsimp only [List.map] <;> exact rfl); exact rfl) | (apply Wp.exit; dsimp only [sQ, tQ, bQ]; simp only [reduceIte]) | (apply Run.gtrue; (simp only [push_cast, seval] <;> (try simp (disch := omega) only [wI, wU, wC]) <;> exact rfl); (simp only [push_cast, seval] <;> (try simp (disch := omega) only [wI, wU, wC]) <;> exact rfl)) | (apply Run.gfalse (.bool false); (simp only [push_cast, seval] <;> (try simp (disch := omega) only [wI, wU, wC]) <;> exact rfl); dsimp only [S.put, optG]) | (apply Wp.condT; (simp only [push_cast, seval] <;> (try simp (disch := omega) only [wI, wU, wC]) <;> exact rfl)) | (apply Wp.condF; (simp only [push_cast, seval] <;> (try simp (disch := omega) only [wI, wU, wC]) <;> exact rfl)))
            apply Run.spec (he := Enters.of Try.func60 rfl rfl) (hc := hp)
            · exact rfl
            · exact rfl
            · (simp only [push_cast, seval] <;> (try simp (disch := omega) only [wI, wU, wC]) <;> exact rfl)
            · rintro _ _ ⟨rfl, rfl⟩
              dsimp only [S.put, optG]
              repeat (first | apply Wp.seq | apply Wp.block | (apply Run.next; (simp only [push_cast, seval] <;> (try simp (disch := omega) only [wI, wU, wC]) <;> exact rfl); (focus ((try simp only [push_cast, seval]) <;> exact sT))) | ((first | apply Run.nil | apply Wp.skip); dsimp only [sQ, tQ, bQ]) | (apply Wp.run; (dsimp only [List.map] <;> exact rfl); exact rfl) | (apply Wp.exit; dsimp only [sQ, tQ, bQ]; simp only [reduceIte]) | (apply Run.gtrue; (simp only [push_cast, seval] <;> (try simp (disch := omega) only [wI, wU, wC]) <;> exact rfl); (simp only [push_cast, seval] <;> (try simp (disch := omega) only [wI, wU, wC]) <;> exact rfl)) | (apply Run.gfalse (.bool false); (simp only [push_cast, seval] <;> (try simp (disch := omega) only [wI, wU, wC]) <;> exact rfl); dsimp only [S.put, optG]) | (apply Wp.condT; (simp only [push_cast, seval] <;> (try simp (disch := omega) only [wI, wU, wC]) <;> exact rfl)) | (apply Wp.condF; (simp only [push_cast, seval] <;> (try simp (disch := omega) only [wI, wU, wC]) <;> exact rfl)))
              refine Wp.loop (fun (i : Nat) => { t := [(7, .optr 4 0 0 0), (26, .int ls.length), (27, .int i)], m := ⟨0, .row 3 [houA cs ms cake]⟩ :: rotM 1 cs ms cake ls o (sI ls.length a i) .any, n := 53 }) (fun i => i ≤ ls.length) (fun i => ls.length - i) 0 ?_ ?_ ?_
              · rw [sI_0]
                (refine Le.of ?_ ?_ rfl rfl <;> (try simp only [push_cast, seval]) <;> (try (with_reducible rfl)))
                all_goals rfl
              · simp
              · intro i hi
                have hsl := sI_len a hi
                repeat (first | apply Wp.seq | apply Wp.block | (apply Run.next; (simp only [push_cast, seval] <;> (try simp (disch := omega) only [wI, wU, wC]) <;> exact rfl); (focus ((try simp only [push_cast, seval]) <;> exact sT))) | ((first | apply Run.nil | apply Wp.skip); dsimp only [sQ, tQ, bQ]) | (apply Wp.run; (dsimp only [List.map] <;> exact rfl); exact rfl) | (apply Wp.exit; dsimp only [sQ, tQ, bQ]; simp only [reduceIte]))
                (apply Wp.cond; (simp only [push_cast, seval] <;> (try simp (disch := omega) only [wI, wU, wC]) <;> exact rfl))
                · intro hc1
                  simp only [decide_eq_true_eq, Int.ofNat_lt] at hc1
                  have hset := sI_set a hc1
                  have hai := ham i hc1
                  have hpa := fun v hv => poss_at hpw ho ha hx (i := i) (v := v) hc1 hv
                  generalize hS : sI ls.length a i = Sx at hsl hset hpa
                  have hgs : ∀ v : Int, (Sx.set i v).getD i 0 = v := fun v => getD_set_self _ _ _ (by omega)
                  have hss : ∀ v w : Int, (Sx.set i v).set i w = Sx.set i w := fun v w => List.set_set _
                  repeat (first | apply Wp.seq | apply Wp.block | (apply Run.next; (simp only [push_cast, seval, rotM, hsl, hgs, hss] <;> (try simp (disch := omega) only [wI, wU, wC]) <;> exact rfl); (focus ((try simp only [push_cast, seval, rotM, hsl, hgs, hss]) <;> exact sT))) | ((first | apply Run.nil | apply Wp.skip); dsimp only [sQ, tQ, bQ]) | (apply Wp.run; (dsimp only [List.map] <;> exact rfl); exact rfl) | (apply Wp.exit; dsimp only [sQ, tQ, bQ]; simp only [reduceIte]))
                  refine Wp.loop (fun (v : Nat) => { t := [(7, .optr 4 0 0 0), (26, .int ls.length), (27, .int i), (8, .int i)], m := ⟨0, .row 3 [houA cs ms cake]⟩ :: rotM 1 cs ms cake ls o (Sx.set i (v : Int)) .any, n := 53 }) (fun v => v ≤ a i) (fun v => a i - v) 0 ?_ ?_ ?_
                  · (refine Le.of ?_ ?_ rfl rfl <;> (try simp only [push_cast, seval, rotM, hsl, hgs, hss]) <;> (try (with_reducible rfl)))
                    all_goals rfl
                  · simp
                  · intro v hv
                    have hpv := possible1_spec hpw ho (stf := Sx.set i (v : Int)) (by simp; omega) (e0 := ⟨0, .row 3 [houA cs ms cake]⟩) (x6 := .any) he0
                    rw [hpa v hv] at hpv
                    repeat (first | apply Wp.seq | apply Wp.block | (apply Run.next; (simp only [push_cast, seval, rotM, hsl, hgs, hss] <;> (try simp (disch := omega) only [wI, wU, wC]) <;> exact rfl); (focus ((try simp only [push_cast, seval, rotM, hsl, hgs, hss]) <;> exact sT))) | ((first | apply Run.nil | apply Wp.skip); dsimp only [sQ, tQ, bQ]) | (apply Wp.run; (dsimp only [List.map] <;> exact rfl); exact rfl) | (apply Wp.exit; dsimp only [sQ, tQ, bQ]; simp only [reduceIte]))
                    apply Run.spec (he := Enters.of Try.func60 rfl rfl) (hc := hpv)
                    · exact rfl
                    · exact rfl
                    · (simp only [push_cast, seval, rotM, hsl, hgs, hss] <;> (try simp (disch := omega) only [wI, wU, wC]) <;> exact rfl)
                    · rintro _ _ ⟨rfl, rfl⟩
                      dsimp only [S.put, optG]
                      repeat (first | apply Wp.seq | apply Wp.block | (apply Run.next; (simp only [push_cast, seval, rotM, hsl, hgs, hss] <;> (try simp (disch := omega) only [wI, wU, wC]) <;> exact rfl); (focus ((try simp only [push_cast, seval, rotM, hsl, hgs, hss]) <;> exact sT))) | ((first | apply Run.nil | apply Wp.skip); dsimp only [sQ, tQ, bQ]) | (apply Wp.run; (dsimp only [List.map] <;> exact rfl); exact rfl) | (apply Wp.exit; dsimp only [sQ, tQ, bQ]; simp only [reduceIte]))
                      (apply Wp.cond; (simp only [push_cast, seval, rotM, hsl, hgs, hss] <;> (try simp (disch := omega) only [wI, wU, wC]) <;> exact rfl))
                      · intro h5
                        simp only [Bool.not_eq_true', decide_eq_false_iff_not] at h5
                        repeat (first | apply Wp.seq | apply Wp.block | (apply Run.next; (simp only [push_cast, seval, rotM, hsl, hgs, hss] <;> (try simp (disch := omega) only [wI, wU, wC]) <;> exact rfl); (focus ((try simp only [push_cast, seval, rotM, hsl, hgs, hss]) <;> exact sT))) | ((first | apply Run.nil | apply Wp.skip); dsimp only [sQ, tQ, bQ]) | (apply Wp.run; (dsimp only [List.map] <;> exact rfl); exact rfl) | (apply Wp.exit; dsimp only [sQ, tQ, bQ]; simp only [reduceIte]))
                        refine ⟨v + 1, ?_, by omega, by omega⟩
                        (refine Le.of ?_ ?_ rfl rfl <;> (try simp only [push_cast, seval, rotM, hsl, hgs, hss]) <;> (try (with_reducible rfl)))
                      · intro h5
                        simp only [Bool.not_eq_false', decide_eq_true_eq] at h5
                        subst h5
                        rw [hset]
                        repeat (first | apply Wp.seq | apply Wp.block | (apply Run.next; (simp only [push_cast, seval, rotM, hsl, hgs, hss] <;> (try simp (disch := omega) only [wI, wU, wC]) <;> exact rfl); (focus ((try simp only [push_cast, seval, rotM, hsl, hgs, hss]) <;> exact sT))) | ((first | apply Run.nil | apply Wp.skip); dsimp only [sQ, tQ, bQ]) | (apply Wp.run; (dsimp only [List.map] <;> exact rfl); exact rfl) | (apply Wp.exit; dsimp only [sQ, tQ, bQ]; simp only [reduceIte]))
                        refine ⟨i + 1, ?_, by omega, by omega⟩
                        (refine Le.of ?_ ?_ rfl rfl <;> (try simp only [push_cast, seval, rotM, hsl, hgs, hss]) <;> (try (with_reducible rfl)))
                · intro hc1
                  simp only [decide_eq_false_iff_not, Int.ofNat_lt] at hc1
                  obtain rfl : i = ls.length := by omega
                  have hal : (aL ls.length a).take ls.length = aL ls.length a := List.take_of_length_le (by rw [aL_len]; exact Nat.le_refl _)
                  have hall := aL_len ls.length a
                  rw [sI_all]
                  repeat (first | apply Wp.seq | apply Wp.block | (apply Run.next; (simp only [push_cast, seval, rotM, hall] <;> (try simp (disch := omega) only [wI, wU, wC]) <;> exact rfl); (focus ((try simp only [push_cast, seval, rotM, hall]) <;> exact sT))) | ((first | apply Run.nil | apply Wp.skip); dsimp only [sQ, tQ, bQ]) | (apply Wp.run; (dsimp only [List.map] <;> exact rfl); exact rfl) | (apply Wp.exit; dsimp only [sQ, tQ, bQ]; simp only [reduceIte]))
                  (apply Wp.freeze 4; (simp only [push_cast, seval, rotM, hall] <;> (try simp (disch := omega) only [wI, wU, wC]) <;> exact rfl); (simp only [push_cast, seval, rotM, hall] <;> (try simp (disch := omega) only [wI, wU, wC]) <;> exact rfl); (focus (try simp only [push_cast, seval, rotM, hall]); (try (exact sT))); (focus (exact sT)))
                  (apply Wp.ret; (try dsimp only [sQ, tQ, bQ]); apply leave0; exact rfl; (simp only [push_cast, seval, rotM, hall] <;> (try simp (disch := omega) only [wI, wU, wC]) <;> exact rfl); all_goals (try simp only [push_cast, seval, rotM, hall]); (try rfl))
                  rw [hal, hs]; rfl
  · rw [if_neg h1]
    have hne : decide (ckE cs ms cake ls = 0) = false := decide_eq_false h1
    rw [if_neg h1]
    (refine Spec.of_body Try.func30 rfl (by rw [Try.ntmps30]; simp) 0 (by simp) ?_; rw [Try.results30, Try.ntmps30]; simp only [entry, zipArgs, Nat.reduceAdd])
    repeat (first | apply Wp.seq | apply Wp.block | (apply Run.next; (simp only [push_cast, seval, hne] <;> (try simp (disch := omega) only [wI, wU, wC]) <;> exact rfl); (focus ((try simp only [push_cast, seval, hne]) <;> exact sT))) | ((first | apply Run.nil | apply Wp.skip); dsimp only [sQ, tQ, bQ]) | (apply Wp.run; (dsimp only [List.map] <;> exact rfl); exact rfl) | (apply Wp.exit; dsimp only [sQ, tQ, bQ]; simp only [reduceIte]))
    (apply Run.pureP; (simp only [push_cast, seval, hne] <;> (try simp (disch := omega) only [wI, wU, wC]) <;> exact rfl); (exact (Enters.of Try.func39 rfl rfl)); (exact hck); (focus (simp only [push_cast, seval, hne] <;> first | trivial | assumption | (refine ⟨?_, ?_⟩ <;> assumption) | (simp; done))); (try dsimp only [putA, optG]))
    repeat (first | apply Wp.seq | apply Wp.block | (apply Run.next; (simp only [push_cast, seval, hne] <;> (try simp (disch := omega) only [wI, wU, wC]) <;> exact rfl); (focus ((try simp only [push_cast, seval, hne]) <;> exact sT))) | ((first | apply Run.nil | apply Wp.skip); dsimp only [sQ, tQ, bQ]) | (apply Wp.run; (dsimp only [List.map] <;> exact rfl); exact rfl) | (apply Wp.exit; dsimp only [sQ, tQ, bQ]; simp only [reduceIte]) | (apply Run.gtrue; (simp only [push_cast, seval, hne] <;> (try simp (disch := omega) only [wI, wU, wC]) <;> exact rfl); (simp only [push_cast, seval, hne] <;> (try simp (disch := omega) only [wI, wU, wC]) <;> exact rfl)) | (apply Run.gfalse (.bool false); (simp only [push_cast, seval, hne] <;> (try simp (disch := omega) only [wI, wU, wC]) <;> exact rfl); dsimp only [S.put, optG]) | (apply Wp.condT; (simp only [push_cast, seval, hne] <;> (try simp (disch := omega) only [wI, wU, wC]) <;> exact rfl)) | (apply Wp.condF; (simp only [push_cast, seval, hne] <;> (try simp (disch := omega) only [wI, wU, wC]) <;> exact rfl)))
    (apply Wp.ret; (try dsimp only [sQ, tQ, bQ]); apply leave0; exact rfl; (simp only [push_cast, seval, hne] <;> (try simp (disch := omega) only [wI, wU, wC]) <;> exact rfl); all_goals (try simp only [push_cast, seval, hne]); (try rfl))
end Go.Proofs.Try
set_option maxHeartbeats 8000000
namespace Go.Proofs.Try
open Go.Vg

/-! behind the errors of Check -/
/-! how many play at the same time -/
end Go.Proofs.Try
set_option maxHeartbeats 8000000
set_option maxRecDepth 20000
namespace Go.Proofs.Try
open Go.Vg

/-! some of the bookings, by a map of their numbers -/
def vi (a : Int) : Value := .int .i64 a
theorem keyedInt : Maps.Keyed Try.prog 3 := kdB_ok (by kernel_rfl)
theorem goodInt {a : Int} (h : -1000 ≤ a ∧ a ≤ 1000) : goodK Try.prog 3 (.int .i64 a) = true := by
  have := Maps.keyOf_int_mk (P := Try.prog) (k := 3) Try.underlying3 (a := a) (by simp [Lit.wf, IntKind.min, IntKind.max, IntKind.signed, IntKind.bits]; omega)
  simp [goodK, this]
def ct (p : Nat → Bool) : Nat → Int
  | 0 => 0
  | k + 1 => if p k = true then ct p k + 1 else ct p k
theorem ct_bd (p : Nat → Bool) : ∀ k, 0 ≤ ct p k ∧ ct p k ≤ k
  | 0 => by simp [ct]
  | k + 1 => by have := ct_bd p k; simp only [ct]; split <;> omega
def num (p : Nat → Bool) (i : Nat) : Int := if p i = true then ct p i else -1
def numL (p : Nat → Bool) : Nat → List (Value × AV)
  | 0 => [(.int .i64 (-1), .int (-1))]
  | k + 1 => numL p k ++ [(.int .i64 (k : Int), .int (num p k))]
theorem findL_app (l : List (Value × AV)) (k : Value) (x : AV) (q : Value) : findL (l ++ [(k, x)]) q = match findL l q with | some y => some y | none => (match eqKey k q with | true => some x | false => none) := by
  induction l with
  | nil => simp only [List.nil_append, findL]; cases eqKey k q <;> rfl
  | cons e l ih =>
    obtain ⟨a, y⟩ := e
    simp only [List.cons_append, findL]
    split
    · rfl
    · exact ih
theorem updL_app (l : List (Value × AV)) (k : Value) (x : AV) : findL l k = none → updL l k x = l ++ [(k, x)] := by
  induction l with
  | nil => intro _; rfl
  | cons e l ih =>
    obtain ⟨a, y⟩ := e
    simp only [findL, updL, List.cons_append]
    split
    · intro h; cases h
    · intro h; rw [ih h]
theorem updL_last (l : List (Value × AV)) (k : Value) (x y : AV) (hk : eqKey k k = true) : findL l k = none → updL (l ++ [(k, x)]) k y = l ++ [(k, y)] := by
  induction l with
  | nil => intro _; simp only [List.nil_append, updL, hk]
  | cons e l ih =>
    obtain ⟨a, z⟩ := e
    simp only [findL, updL, List.cons_append]
    split
    · intro h; cases h
    · intro h; rw [ih h]
theorem numL_none (p : Nat → Bool) : ∀ (k : Nat) (a : Int), (k : Int) ≤ a → findL (numL p k) (.int .i64 a) = none
  | 0, a, h => by
    simp only [numL, findL, eqKey_int, decide_eq_false (by omega : ¬ (-1 : Int) = a)]
  | k + 1, a, h => by
    simp only [numL, findL_app, numL_none p k a (by omega), eqKey_int, decide_eq_false (by omega : ¬ (k : Int) = a)]
theorem numL_neg (p : Nat → Bool) : ∀ (k : Nat), findL (numL p k) (.int .i64 (-1)) = some (.int (-1))
  | 0 => by simp only [numL, findL, eqKey_int, decide_true]
  | k + 1 => by simp only [numL, findL_app, numL_neg p k]
theorem numL_at (p : Nat → Bool) : ∀ (k : Nat) (i : Nat), i < k → findL (numL p k) (.int .i64 (i : Int)) = some (.int (num p i))
  | 0, i, h => by omega
  | k + 1, i, h => by
    by_cases hik : i = k
    · subst hik
      simp only [numL, findL_app, numL_none p i (i : Int) (Int.le_refl _), eqKey_int, decide_true]
    · simp only [numL, findL_app, numL_at p k i (by omega)]
theorem goodL_app {P : Program} {kt : TypeId} (k : Value) (x : AV) (h : goodK P kt k = true) : ∀ (l : List (Value × AV)), goodL P kt l = true → goodL P kt (l ++ [(k, x)]) = true
  | [], _ => by simp only [List.nil_append, goodL, h]
  | (a, y) :: l, hl => by
    simp only [goodL] at hl
    simp only [List.cons_append, goodL]
    split at hl
    · exact goodL_app k x h l hl
    · cases hl
theorem numL_good (p : Nat → Bool) : ∀ (k : Nat), k ≤ 100 → goodL Try.prog 3 (numL p k) = true
  | 0, _ => by simp only [numL, goodL, goodInt (a := -1) (by omega)]
  | k + 1, h => goodL_app _ _ (goodInt (by omega)) _ (numL_good p k (by omega))
def nmR (p : Nat → Bool) (r : Int) : Int := if r = -1 then -1 else num p r.toNat
theorem numL_get (p : Nat → Bool) {n : Nat} {r : Int} (h : -1 ≤ r ∧ r < n) : findL (numL p n) (.int .i64 r) = some (.int (nmR p r)) := by
  unfold nmR
  by_cases h1 : r = -1
  · rw [if_pos h1, h1]; exact numL_neg p n
  · rw [if_neg h1]
    have := numL_at p n r.toNat (by omega)
    rwa [show ((r.toNat : Nat) : Int) = r by omega] at this
def sel (p : Nat → Bool) (ls : List Bk) (k : Nat) : List Bk := ((List.range k).filter p).map fun i => ls.getD i bk0
theorem sel_succ (p : Nat → Bool) (ls : List Bk) (k : Nat) : sel p ls (k + 1) = if p k = true then sel p ls k ++ [ls.getD k bk0] else sel p ls k := by
  unfold sel
  rw [List.range_succ, List.filter_append, List.map_append]
  by_cases h : p k = true
  · rw [if_pos h, List.filter_cons, if_pos h]; rfl
  · rw [if_neg h, List.filter_cons, if_neg h]; simp
theorem sel_len (p : Nat → Bool) (ls : List Bk) : ∀ k, ((sel p ls k).length : Int) = ct p k
  | 0 => rfl
  | k + 1 => by
    rw [sel_succ]
    simp only [ct]
    split
    · simp [sel_len p ls k]
    · exact sel_len p ls k
theorem sel_mem {p : Nat → Bool} {ls : List Bk} {k : Nat} {b : Bk} (h : b ∈ sel p ls k) (hk : k ≤ ls.length) : ∃ i, i < ls.length ∧ b = ls.getD i bk0 ∧ p i = true := by
  unfold sel at h
  obtain ⟨i, hi, rfl⟩ := List.mem_map.1 h
  rw [List.mem_filter, List.mem_range] at hi
  exact ⟨i, by omega, rfl, hi.2⟩
def reR (p : Nat → Bool) (b : Bk) : Bk := { b with rival := nmR p b.rival }
def someL (p : Nat → Bool) (ls : List Bk) : List Bk := (sel p ls ls.length).map (reR p)
theorem take_reR (p : Nat → Bool) (S : List Bk) (k : Nat) (hk : k < S.length) : (S.take k).map (reR p) ++ (reR p (S.getD k bk0) :: S.drop (k + 1)) = (S.take (k + 1)).map (reR p) ++ S.drop (k + 1) := by
  have : S.take (k + 1) = S.take k ++ [S.getD k bk0] := by
    rw [List.take_add_one]; simp [hk]
  rw [this]; simp
def mixL (p : Nat → Bool) (S : List Bk) (k : Nat) : List Bk := (S.take k).map (reR p) ++ S.drop k
theorem mixL_len (p : Nat → Bool) (S : List Bk) (k : Nat) : (mixL p S k).length = S.length := by
  simp [mixL]; omega
theorem mixL_get (p : Nat → Bool) (S : List Bk) (k : Nat) (hk : k < S.length) : (mixL p S k).getD k bk0 = S.getD k bk0 := by
  have hl : ((S.take k).map (reR p)).length = k := by simp; omega
  simp only [mixL, List.getD_eq_getElem?_getD]
  rw [List.getElem?_append_right (by omega), hl]
  simp
theorem mixL_set (p : Nat → Bool) (S : List Bk) (k : Nat) (hk : k < S.length) : (mixL p S k).set k (reR p (S.getD k bk0)) = mixL p S (k + 1) := by
  have hl : ((S.take k).map (reR p)).length = k := by simp; omega
  unfold mixL
  rw [← take_reR p S k hk, List.set_append_right _ _ (by omega), hl, Nat.sub_self]
  have : S.drop k = S.getD k bk0 :: S.drop (k + 1) := by
    rw [List.drop_eq_getElem_cons hk]; simp [hk]
  rw [this]; rfl
theorem mixL_all (p : Nat → Bool) (S : List Bk) : mixL p S S.length = S.map (reR p) := by simp [mixL]
theorem some_pure (ls : List Bk) (g : FuncId) (caps : List AV) (p : Nat → Bool) (hg : Enters Try.prog g) (hk : okL 0 caps) (hcv : ∀ m, caps.map (view m) = caps ∧ caps.map (view2 m) = caps) (hp : ∀ i, i < ls.length → Pure Try.prog g (.int (i : Int) :: caps) (.bool (p i))) (hl20 : ls.length ≤ 20) (hrv : ∀ i, i < ls.length → -1 ≤ (ls.getD i bk0).rival ∧ (ls.getD i bk0).rival < ls.length) :
    Pure Try.prog 70 [.lst 6 (ls.map bkA), .clo g caps] (.lst 6 ((someL p ls).map bkA)) := by
  have e0 : findL [] (.int .i64 (-1)) = none := rfl
  have e1 : updL [] (.int .i64 (-1)) (.int (-1)) = [(.int .i64 (-1), .int (-1))] := rfl
  have e2 : goodK Try.prog 3 (.int .i64 (-1)) = true := goodInt (by omega)
  have e3 : goodL Try.prog 3 [] = true := rfl
  have hki : Maps.Keyed Try.prog 3 = True := eq_true keyedInt
  (refine Spec.of_body Try.func70 rfl (by rw [Try.ntmps70]; simp) 0 (by simp) ?_; rw [Try.results70, Try.ntmps70]; simp only [entry, zipArgs, Nat.reduceAdd])
  repeat (first | apply Wp.seq | apply Wp.block | (apply Run.next; (simp only [push_cast, seval, hcv, List.map_append, e1, e2, e3, hki] <;> (try simp (disch := omega) only [wI, wU, wC]) <;> exact rfl); (focus ((try simp only [push_cast, seval, hcv, List.map_append, e1, e2, e3, hki]) <;> exact sT))) | ((first | apply Run.nil | apply Wp.skip); dsimp only [sQ, tQ, bQ]) | (apply Wp.run; (dsimp only [List.map] <;> exact rfl); exact rfl) | (apply Wp.exit; dsimp only [sQ, tQ, bQ]; simp only [reduceIte]))
  refine Wp.adopt 4 6 (by (simp only [push_cast, seval, hcv, List.map_append, e1, e2, e3, hki] <;> (try simp (disch := omega) only [wI, wU, wC]) <;> exact rfl)) ?_
  refine Wp.loop (fun k : Nat => { t := [(0, .lst 6 (ls.map bkA)), (1, .clo g caps), (5, .omap 0 0), (4, .osl 1 (sel p ls k).length 0 (sel p ls k).length), (11, .int ls.length), (12, .int k)], m := [⟨0, .mp (numL p k)⟩, ⟨(sel p ls k).length, .row 6 ((sel p ls k).map bkA)⟩], n := 50 }) (fun k => k ≤ ls.length) (fun k => ls.length - k) 0 ?_ ?_ ?_
  · (refine Le.of ?_ ?_ rfl rfl <;> (try simp only [push_cast, seval, hcv, List.map_append]) <;> (try (with_reducible rfl)))
    all_goals rfl
  · simp
  · intro k hk1
    have hnn := numL_none p k (k : Int) (Int.le_refl _)
    have hng := numL_good p k (by omega)
    have hns : numL p (k + 1) = numL p k ++ [(.int .i64 (k : Int), .int (num p k))] := rfl
    have hnm : num p k = if p k = true then ct p k else -1 := rfl
    have hsl := sel_len p ls k
    have hss := sel_succ p ls k
    have hcb := ct_bd p k
    generalize hN : numL p k = N at hnn hng hns
    generalize hS : sel p ls k = S at hsl hss
    repeat (first | apply Wp.seq | apply Wp.block | (apply Run.next; (simp only [push_cast, seval, hcv, List.map_append] <;> (try simp (disch := omega) only [wI, wU, wC]) <;> exact rfl); (focus ((try simp only [push_cast, seval, hcv, List.map_append]) <;> exact sT))) | ((first | apply Run.nil | apply Wp.skip); dsimp only [sQ, tQ, bQ]) | (apply Wp.run; (dsimp only [List.map] <;> exact rfl); exact rfl) | (apply Wp.exit; dsimp only [sQ, tQ, bQ]; simp only [reduceIte]))
    (apply Wp.cond; (simp only [push_cast, seval, hcv, List.map_append] <;> (try simp (disch := omega) only [wI, wU, wC]) <;> exact rfl))
    · intro hc
      simp only [decide_eq_true_eq, Int.ofNat_lt] at hc
      have hpk := hp k hc
      have hgk := goodInt (a := (k : Int)) (by omega)
      have u1 := updL_app N (.int .i64 (k : Int)) (.int (-1)) hnn
      have u2 := fun y => updL_last N (.int .i64 (k : Int)) (.int (-1)) y (by rw [eqKey_int]; simp) hnn
      have g2 := goodL_app (P := Try.prog) (kt := 3) (.int .i64 (k : Int)) (.int (-1)) hgk N hng
      generalize hx : ls.getD k bk0 = x at hss
      repeat (first | apply Wp.seq | apply Wp.block | (apply Run.next; (simp only [push_cast, seval, hcv, List.map_append, hx, u1, u2, hng, hgk, hki, g2] <;> (try simp (disch := omega) only [wI, wU, wC]) <;> exact rfl); (focus ((try simp only [push_cast, seval, hcv, List.map_append, hx, u1, u2, hng, hgk, hki, g2]) <;> exact sT))) | ((first | apply Run.nil | apply Wp.skip); dsimp only [sQ, tQ, bQ]) | (apply Wp.run; (dsimp only [List.map] <;> exact rfl); exact rfl) | (apply Wp.exit; dsimp only [sQ, tQ, bQ]; simp only [reduceIte]))
      (apply Run.pureP; (simp only [push_cast, seval, hcv, List.map_append, hx, u1, u2, hng, hgk, hki, g2] <;> (try simp (disch := omega) only [wI, wU, wC]) <;> exact rfl); (exact hg); (exact hpk); (focus (simp only [push_cast, seval, hcv, List.map_append, hx, u1, u2, hng, hgk, hki, g2] <;> first | trivial | assumption | (refine ⟨?_, ?_⟩ <;> assumption) | (simp; done))); (try dsimp only [putA, optG]))
      repeat (first | apply Wp.seq | apply Wp.block | (apply Run.next; (simp only [push_cast, seval, hcv, List.map_append, hx, u1, u2, hng, hgk, hki, g2] <;> (try simp (disch := omega) only [wI, wU, wC]) <;> exact rfl); (focus ((try simp only [push_cast, seval, hcv, List.map_append, hx, u1, u2, hng, hgk, hki, g2]) <;> exact sT))) | ((first | apply Run.nil | apply Wp.skip); dsimp only [sQ, tQ, bQ]) | (apply Wp.run; (dsimp only [List.map] <;> exact rfl); exact rfl) | (apply Wp.exit; dsimp only [sQ, tQ, bQ]; simp only [reduceIte]))
      (apply Wp.cond; (simp only [push_cast, seval, hcv, List.map_append, hx, u1, u2, hng, hgk, hki, g2] <;> (try simp (disch := omega) only [wI, wU, wC]) <;> exact rfl))
      · intro h2
        rw [if_pos h2] at hss hnm
        repeat (first | apply Wp.seq | apply Wp.block | (apply Run.next; (simp only [push_cast, seval, hcv, List.map_append, hx, u1, u2, hng, hgk, hki, g2] <;> (try simp (disch := omega) only [wI, wU, wC]) <;> exact rfl); (focus ((try simp only [push_cast, seval, hcv, List.map_append, hx, u1, u2, hng, hgk, hki, g2]) <;> exact sT))) | ((first | apply Run.nil | apply Wp.skip); dsimp only [sQ, tQ, bQ]) | (apply Wp.run; (dsimp only [List.map] <;> exact rfl); exact rfl) | (apply Wp.exit; dsimp only [sQ, tQ, bQ]; simp only [reduceIte]))
        refine ⟨k + 1, ?_, by omega, by omega⟩
        rw [hss, hns, hnm, ← hsl, List.length_append]
        (refine Le.of ?_ ?_ rfl rfl <;> (try simp only [push_cast, seval, hcv, List.map_append, hx, u1, u2, hng, hgk, hki, g2]) <;> (try (with_reducible rfl)))
      · intro h2
        rw [if_neg (by rw [h2]; simp)] at hss hnm
        repeat (first | apply Wp.seq | apply Wp.block | (apply Run.next; (simp only [push_cast, seval, hcv, List.map_append, hx, u1, u2, hng, hgk, hki, g2] <;> (try simp (disch := omega) only [wI, wU, wC]) <;> exact rfl); (focus ((try simp only [push_cast, seval, hcv, List.map_append, hx, u1, u2, hng, hgk, hki, g2]) <;> exact sT))) | ((first | apply Run.nil | apply Wp.skip); dsimp only [sQ, tQ, bQ]) | (apply Wp.run; (dsimp only [List.map] <;> exact rfl); exact rfl) | (apply Wp.exit; dsimp only [sQ, tQ, bQ]; simp only [reduceIte]))
        refine ⟨k + 1, ?_, by omega, by omega⟩
        rw [hss, hns, hnm]
        (refine Le.of ?_ ?_ rfl rfl <;> (try simp only [push_cast, seval, hcv, List.map_append, hx, u1, u2, hng, hgk, hki, g2]) <;> (try (with_reducible rfl)))
    · intro hc
      simp only [decide_eq_false_iff_not, Int.ofNat_lt] at hc
      obtain rfl : k = ls.length := by omega
      have hSm : ∀ j, j < S.length → -1 ≤ (S.getD j bk0).rival ∧ (S.getD j bk0).rival < ls.length := by
        intro j hj
        have h1 : S.getD j bk0 ∈ sel p ls ls.length := by rw [hS]; exact memBk hj
        obtain ⟨i, hi, he, _⟩ := sel_mem h1 (Nat.le_refl _)
        rw [he]; exact hrv i hi
      have hsr : someL p ls = S.map (reR p) := by unfold someL; rw [hS]
      repeat (first | apply Wp.seq | apply Wp.block | (apply Run.next; (simp only [push_cast, seval, hcv, List.map_append] <;> (try simp (disch := omega) only [wI, wU, wC]) <;> exact rfl); (focus ((try simp only [push_cast, seval, hcv, List.map_append]) <;> exact sT))) | ((first | apply Run.nil | apply Wp.skip); dsimp only [sQ, tQ, bQ]) | (apply Wp.run; (dsimp only [List.map] <;> exact rfl); exact rfl) | (apply Wp.exit; dsimp only [sQ, tQ, bQ]; simp only [reduceIte]))
      refine Wp.loop (fun k : Nat => { t := [(5, .omap 0 0), (4, .osl 1 S.length 0 S.length), (33, .int S.length), (34, .int k)], m := [⟨0, .mp N⟩, ⟨S.length, .row 6 ((mixL p S k).map bkA)⟩], n := 50 }) (fun k => k ≤ S.length) (fun k => S.length - k) 0 ?_ ?_ ?_
      · (refine Le.of ?_ ?_ rfl rfl <;> (try simp only [push_cast, seval, hcv, List.map_append]) <;> (try (with_reducible rfl)))
        all_goals simp [mixL]
      · simp
      · intro i hi1
        have hml := mixL_len p S i
        repeat (first | apply Wp.seq | apply Wp.block | (apply Run.next; (simp only [push_cast, seval, hcv, List.map_append] <;> (try simp (disch := omega) only [wI, wU, wC]) <;> exact rfl); (focus ((try simp only [push_cast, seval, hcv, List.map_append]) <;> exact sT))) | ((first | apply Run.nil | apply Wp.skip); dsimp only [sQ, tQ, bQ]) | (apply Wp.run; (dsimp only [List.map] <;> exact rfl); exact rfl) | (apply Wp.exit; dsimp only [sQ, tQ, bQ]; simp only [reduceIte]))
        (apply Wp.cond; (simp only [push_cast, seval, hcv, List.map_append] <;> (try simp (disch := omega) only [wI, wU, wC]) <;> exact rfl))
        · intro hci
          simp only [decide_eq_true_eq, Int.ofNat_lt] at hci
          have hmg := mixL_get p S i hci
          have hms := mixL_set p S i hci
          have hri := hSm i hci
          have hfl := numL_get p hri
          rw [hN] at hfl
          have hgr := goodInt (a := (S.getD i bk0).rival) (by omega)
          generalize hM : mixL p S i = M at hmg hms hml
          have hmd : ∀ d, (M.map bkA).getD i d = bkA (S.getD i bk0) := by
            intro d
            rw [← hmg]
            simp [List.getD_eq_getElem?_getD, show i < M.length by omega]
          generalize hz : S.getD i bk0 = z at hmg hms hri hfl hgr hmd
          repeat (first | apply Wp.seq | apply Wp.block | (apply Run.next; (simp only [push_cast, seval, hcv, List.map_append, hmd, hmg, hml, hfl, hng, hgr, hki] <;> (try simp (disch := omega) only [wI, wU, wC]) <;> exact rfl); (focus ((try simp only [push_cast, seval, hcv, List.map_append, hmd, hmg, hml, hfl, hng, hgr, hki]) <;> exact sT))) | ((first | apply Run.nil | apply Wp.skip); dsimp only [sQ, tQ, bQ]) | (apply Wp.run; (dsimp only [List.map] <;> exact rfl); exact rfl) | (apply Wp.exit; dsimp only [sQ, tQ, bQ]; simp only [reduceIte]))
          refine ⟨i + 1, ?_, by omega, by omega⟩
          rw [← hms]
          (refine Le.of ?_ ?_ rfl rfl <;> (try simp only [push_cast, seval, hcv, List.map_append, hmd, hmg, hml, hfl, hng, hgr, hki]) <;> (try (with_reducible rfl)))
          all_goals simp [reR, bkA]
        · intro hci
          simp only [decide_eq_false_iff_not, Int.ofNat_lt] at hci
          obtain rfl : i = S.length := by omega
          rw [mixL_all]
          repeat (first | apply Wp.seq | apply Wp.block | (apply Run.next; (simp only [push_cast, seval, hcv, List.map_append] <;> (try simp (disch := omega) only [wI, wU, wC]) <;> exact rfl); (focus ((try simp only [push_cast, seval, hcv, List.map_append]) <;> exact sT))) | ((first | apply Run.nil | apply Wp.skip); dsimp only [sQ, tQ, bQ]) | (apply Wp.run; (dsimp only [List.map] <;> exact rfl); exact rfl) | (apply Wp.exit; dsimp only [sQ, tQ, bQ]; simp only [reduceIte]))
          (apply Wp.freeze 4; (simp only [push_cast, seval, hcv, List.map_append] <;> (try simp (disch := omega) only [wI, wU, wC]) <;> exact rfl); (simp only [push_cast, seval, hcv, List.map_append] <;> (try simp (disch := omega) only [wI, wU, wC]) <;> exact rfl); (focus (try simp only [push_cast, seval, hcv, List.map_append]); (try (exact sT))); (focus (exact sT)))
          (apply Wp.ret; (try dsimp only [sQ, tQ, bQ]); apply leave0; exact rfl; (simp only [push_cast, seval, hcv, List.map_append] <;> (try simp (disch := omega) only [wI, wU, wC]) <;> exact rfl); all_goals (try simp only [push_cast, seval, hcv, List.map_append]); (try rfl))
          rw [hsr, List.take_of_length_le (by simp)]
end Go.Proofs.Try
set_option maxHeartbeats 8000000
set_option maxRecDepth 20000
namespace Go.Proofs.Try
open Go.Vg

/-! a booking is cancelled -/
end Go.Proofs.Try
set_option maxHeartbeats 8000000
set_option maxRecDepth 20000
namespace Go.Proofs.Try
open Go.Vg

/-! some of the bookings stay right -/
def ixL (p : Nat → Bool) (n : Nat) : List Nat := (List.range n).filter p
def ctN (p : Nat → Bool) : Nat → Nat
  | 0 => 0
  | k + 1 => if p k = true then ctN p k + 1 else ctN p k
theorem ct_ctN (p : Nat → Bool) : ∀ k, ct p k = (ctN p k : Int)
  | 0 => rfl
  | k + 1 => by simp only [ct, ctN, ct_ctN p k]; split <;> simp
theorem ixL_succ (p : Nat → Bool) (n : Nat) : ixL p (n + 1) = ixL p n ++ (if p n = true then [n] else []) := by
  unfold ixL
  rw [List.range_succ, List.filter_append, List.filter_cons]
  simp
theorem ixL_len (p : Nat → Bool) : ∀ n, (ixL p n).length = ctN p n
  | 0 => rfl
  | n + 1 => by rw [ixL_succ, List.length_append, ixL_len p n]; simp only [ctN]; split <;> simp
theorem ctN_mono (p : Nat → Bool) {i : Nat} : ∀ {j : Nat}, i ≤ j → ctN p i ≤ ctN p j
  | 0, h => by have : i = 0 := by omega
               subst this; exact Nat.le_refl _
  | j + 1, h => by
    by_cases hij : i = j + 1
    · subst hij; exact Nat.le_refl _
    · have := ctN_mono p (i := i) (j := j) (by omega)
      simp only [ctN]; split <;> omega
theorem ctN_lt (p : Nat → Bool) {i j : Nat} (h : i < j) (hp : p i = true) : ctN p i < ctN p j := by
  have h1 := ctN_mono p (show i + 1 ≤ j by omega)
  simp only [ctN, hp, if_true] at h1
  omega
theorem ixL_at (p : Nat → Bool) : ∀ {n j : Nat}, j < n → p j = true → (ixL p n).getD (ctN p j) 0 = j
  | 0, j, h, _ => by omega
  | n + 1, j, h, hp => by
    rw [ixL_succ]
    have hl := ixL_len p n
    by_cases hjn : j = n
    · subst hjn
      simp only [List.getD_eq_getElem?_getD]
      rw [List.getElem?_append_right (by omega), hl, Nat.sub_self, if_pos hp]; rfl
    · have h1 := ctN_lt p (show j < n by omega) hp
      have ih := ixL_at p (n := n) (j := j) (by omega) hp
      simp only [List.getD_eq_getElem?_getD] at *
      rw [List.getElem?_append_left (by omega)]; exact ih
theorem ixL_of (p : Nat → Bool) {n k : Nat} (hk : k < (ixL p n).length) : ∃ j, j < n ∧ p j = true ∧ ctN p j = k ∧ (ixL p n).getD k 0 = j := by
  have hm : (ixL p n)[k] ∈ ixL p n := List.getElem_mem hk
  unfold ixL at hm
  rw [List.mem_filter, List.mem_range] at hm
  have hm1 : (ixL p n)[k] < n := hm.1
  have hm2 : p (ixL p n)[k] = true := hm.2
  have h1 := ixL_at p hm1 hm2
  have hlt : ctN p (ixL p n)[k] < (ixL p n).length := by rw [ixL_len]; exact ctN_lt p hm1 hm2
  refine ⟨(ixL p n)[k], hm1, hm2, ?_, by simp [hk]⟩
  rw [List.getD_eq_getElem?_getD, List.getElem?_eq_getElem hlt, Option.getD_some] at h1
  have hnd : (ixL p n).Nodup := List.nodup_range.filter _
  exact (List.getElem_inj hnd).1 h1
theorem someL_eq (p : Nat → Bool) (ls : List Bk) : someL p ls = (ixL p ls.length).map fun i => reR p (ls.getD i bk0) := by
  unfold someL sel ixL; rw [List.map_map]; rfl
theorem someL_len (p : Nat → Bool) (ls : List Bk) : (someL p ls).length = ctN p ls.length := by rw [someL_eq, List.length_map, ixL_len]
theorem someL_at {p : Nat → Bool} {ls : List Bk} {j : Nat} (hj : j < ls.length) (hp : p j = true) : ctN p j < (someL p ls).length ∧ (someL p ls).getD (ctN p j) bk0 = reR p (ls.getD j bk0) := by
  have h1 := ixL_at p hj hp
  have h2 : ctN p j < (ixL p ls.length).length := by rw [ixL_len]; exact ctN_lt p hj hp
  refine ⟨by rw [someL_len]; exact ctN_lt p hj hp, ?_⟩
  rw [someL_eq]
  simp only [List.getD_eq_getElem?_getD, List.getElem?_map, List.getElem?_eq_getElem h2, Option.map_some, Option.getD_some] at *
  rw [h1]
theorem someL_of {p : Nat → Bool} {ls : List Bk} {k : Nat} (hk : k < (someL p ls).length) : ∃ j, j < ls.length ∧ p j = true ∧ ctN p j = k ∧ (ixL p ls.length).getD k 0 = j ∧ (someL p ls).getD k bk0 = reR p (ls.getD j bk0) := by
  obtain ⟨j, h1, h2, h3, h4⟩ := ixL_of p (n := ls.length) (k := k) (by rw [ixL_len, ← someL_len]; exact hk)
  refine ⟨j, h1, h2, h3, h4, ?_⟩
  rw [← h3]; exact (someL_at h1 h2).2
theorem nmR_at {p : Nat → Bool} {r : Int} (h0 : 0 ≤ r) : nmR p r = if p r.toNat = true then (ctN p r.toNat : Int) else -1 := by
  unfold nmR num
  rw [if_neg (by omega), ct_ctN]
theorem okB_iff {cs : List Ch} {cake : Int} {ls : List Bk} {i : Nat} : okB cs cake ls i = true ↔ bkB cs cake (ls.getD i bk0) = true ∧ ((ls.getD i bk0).rival = -1 ∨ ∃ m : Nat, (ls.getD i bk0).rival = (m : Int) ∧ m ≠ i ∧ m < ls.length ∧ (ls.getD m bk0).rival = (i : Int)) := by
  unfold okB
  simp only [Bool.and_eq_true, Bool.or_eq_true, decide_eq_true_eq, Bool.not_eq_true', decide_eq_false_iff_not, wi_iff]
  constructor
  · rintro ⟨h1, h2⟩
    refine ⟨h1, ?_⟩
    rcases h2 with h2 | ⟨⟨h2, h3⟩, h4⟩
    · exact .inl h2
    · exact .inr ⟨(ls.getD i bk0).rival.toNat, by omega, by omega, by omega, h4⟩
  · rintro ⟨h1, h2⟩
    refine ⟨h1, ?_⟩
    rcases h2 with h2 | ⟨m, h2, h3, h4, h5⟩
    · exact .inl h2
    · right
      have e : (ls.getD i bk0).rival.toNat = m := by omega
      rw [e]
      exact ⟨⟨by omega, by omega⟩, h5⟩
theorem ck_iff {cs : List Ch} {ms : List Ma} {cake : Int} {ls : List Bk} : ckE cs ms cake ls = 0 ↔ hoB cs ms cake = true ∧ ls.length ≤ 20 ∧ ∀ i, i < ls.length → okB cs cake ls i = true := by
  unfold ckE
  constructor
  · intro h
    split at h
    · rename_i h1
      split at h
      · rename_i h2
        split at h
        · rename_i h3
          rw [List.all_eq_true] at h3
          exact ⟨h1, h2, fun i hi => h3 i (List.mem_range.2 hi)⟩
        · cases h
      · cases h
    · cases h
  · rintro ⟨h1, h2, h3⟩
    rw [if_pos h1, if_pos h2, if_pos (range_all h3)]
theorem ck_some {cs : List Ch} {ms : List Ma} {cake : Int} {ls : List Bk} (p : Nat → Bool) (h : ckE cs ms cake ls = 0) : ckE cs ms cake (someL p ls) = 0 := by
  rw [ck_iff] at h ⊢
  obtain ⟨h1, h2, h3⟩ := h
  have hle : ctN p ls.length ≤ ls.length := by
    have := ct_bd p ls.length; rw [ct_ctN] at this; omega
  refine ⟨h1, by rw [someL_len]; omega, fun k hk => ?_⟩
  obtain ⟨j, g1, g2, g3, _, g5⟩ := someL_of hk
  obtain ⟨q1, q2⟩ := okB_iff.1 (h3 j g1)
  rw [okB_iff, g5]
  refine ⟨q1, ?_⟩
  rcases q2 with q2 | ⟨m, q2, q3, q4, q5⟩
  · left; simp only [reR, q2, nmR, if_true]
  · by_cases hm : p m = true
    · right
      refine ⟨ctN p m, ?_, ?_, (someL_at q4 hm).1, ?_⟩
      · simp only [reR]; rw [q2, nmR_at (by omega), Int.toNat_natCast, if_pos hm]
      · rw [← g3]
        rcases Nat.lt_trichotomy m j with h4 | h4 | h4
        · have := ctN_lt p h4 hm; omega
        · exact (q3 h4).elim
        · have := ctN_lt p h4 g2; omega
      · rw [(someL_at q4 hm).2]
        simp only [reR]; rw [q5, nmR_at (by omega), Int.toNat_natCast, if_pos g2, g3]
    · left
      simp only [reR]; rw [q2, nmR_at (by omega), Int.toNat_natCast, if_neg hm]
theorem prI_nil' {p : Nat → Nat → Bool} {i : Nat} : ∀ {k : Nat}, (∀ j, i < j → j < k → p i j = false) → prI p i k = []
  | 0, _ => rfl
  | k + 1, h => by
    simp only [prI]
    rw [if_neg (by
      by_cases hik : i < k
      · rw [h k hik (by omega)]; simp
      · simp [hik])]
    exact prI_nil' fun j h1 h2 => h j h1 (by omega)
theorem prP_nil' {p : Nat → Nat → Bool} {n : Nat} : ∀ {i : Nat}, (∀ a b, a < i → a < b → b < n → p a b = false) → prP p n i = []
  | 0, _ => rfl
  | i + 1, h => by
    simp only [prP]
    rw [prP_nil' fun a b h1 => h a b (by omega), prI_nil' fun j h1 h2 => h i j (by omega) h1 h2]; rfl
theorem prI_none2 {p : Nat → Nat → Bool} {i : Nat} : ∀ {k : Nat}, prI p i k = [] → ∀ j, i < j → j < k → p i j = false
  | 0, _, j, _, hj => by omega
  | k + 1, h, j, h1, h2 => by
    simp only [prI] at h
    split at h
    · simp at h
    · rename_i hn
      by_cases hjk : j = k
      · subst hjk
        cases hp : p i j with
        | false => rfl
        | true => rw [hp] at hn; simp [h1] at hn
      · exact prI_none2 h j h1 (by omega)
theorem prP_none2 {p : Nat → Nat → Bool} {n : Nat} : ∀ {i : Nat}, prP p n i = [] → ∀ a b, a < i → a < b → b < n → p a b = false
  | 0, _, a, b, h, _, _ => by omega
  | i + 1, h, a, b, h1, h2, h3 => by
    simp only [prP, List.append_eq_nil_iff] at h
    by_cases hai : a = i
    · subst hai; exact prI_none2 h.2 b h2 h3
    · exact prP_none2 h.1 a b (by omega) h2 h3
theorem fit_iff {cs : List Ch} {cake : Int} {ls : List Bk} : fitB cs cake ls = true ↔ (∀ a b, a < b → b < ls.length → sameB cs cake (ls.getD a bk0) (ls.getD b bk0) = false) ∧ ∀ i, i < ls.length → rvB ls (ls.getD i bk0) = false := by
  unfold fitB
  rw [Bool.and_eq_true, decide_eq_true_eq, Bool.not_eq_true']
  constructor
  · rintro ⟨h1, h2⟩
    refine ⟨fun a b hab hb => prP_none2 h1 a b (by omega) hab hb, fun i hi => ?_⟩
    rw [List.any_eq_false] at h2
    have := h2 _ (memBk hi)
    simpa using this
  · rintro ⟨h1, h2⟩
    exact ⟨prP_nil' fun a b _ hab hb => h1 a b hab hb, anyNoneBk h2⟩
theorem ed_0 {cs : List Ch} {ms : List Ma} {cake : Int} {ls : List Bk} : edE cs ms cake ls = 0 ↔ fitB cs cake ls = true ∧ psB cs ms ls = true := by
  unfold edE
  constructor
  · intro h
    split at h
    · rename_i h1
      split at h
      · rename_i h2; exact ⟨h1, h2⟩
      · cases h
    · cases h
  · rintro ⟨h1, h2⟩; rw [if_pos h1, if_pos h2]
theorem sf_0 {cs : List Ch} {ms : List Ma} {cake : Int} {ls : List Bk} : sfE cs ms cake ls = 0 ↔ ckE cs ms cake ls = 0 ∧ edE cs ms cake ls = 0 := by
  unfold sfE
  by_cases h : ckE cs ms cake ls = 0
  · rw [if_pos h]; exact ⟨fun h2 => ⟨h, h2⟩, fun h2 => h2.2⟩
  · rw [if_neg h]; exact ⟨fun h2 => (h h2).elim, fun h2 => (h h2.1).elim⟩
/-! bookings with one or two more -/
end Go.Proofs.Try
set_option maxHeartbeats 8000000
namespace Go.Proofs.Try
open Go.Vg
theorem memI {l : List Int} {k : Nat} (h : k < l.length) : l.getD k 0 ∈ l := by simp [h]
theorem findI {l : List Int} {p : Int → Bool} {k : Nat} (hk : k < l.length) (h1 : ∀ j, j < k → p (l.getD j 0) = false) (h2 : p (l.getD k 0) = true) : l.any p = true ∧ l.findIdx p = k := by
  have e : ∀ j (hj : j < l.length), l.getD j 0 = l[j] := fun j hj => by simp [hj]
  refine ⟨List.any_eq_true.2 ⟨l[k], List.getElem_mem hk, by rw [← e k hk]; exact h2⟩, ?_⟩
  rw [List.findIdx_eq hk]
  refine ⟨by rw [← e k hk]; exact h2, fun j hj => ?_⟩
  have := h1 j hj
  rw [e j (by omega)] at this
  exact this
theorem anyNoneI {l : List Int} {p : Int → Bool} (h : ∀ j, j < l.length → p (l.getD j 0) = false) : l.any p = false := by
  rw [List.any_eq_false]
  intro x hx
  obtain ⟨i, hi, rfl⟩ := List.getElem_of_mem hx
  have := h i hi
  simp [hi] at this
  simp [this]
theorem indexFuncI (l : List Int) (g : FuncId) (caps : List AV) (p : Int → Bool) (hg : Enters Try.prog g) (hk : okL 0 caps) (hcv : ∀ m, caps.map (view m) = caps ∧ caps.map (view2 m) = caps) (hp : ∀ x ∈ l, Pure Try.prog g (AV.int x :: caps) (.bool (p x))) (hl : l.length ≤ 9223372036854775807) :
    Pure Try.prog 92 [.ints l, .clo g caps] (.int (if l.any p then (l.findIdx p : Int) else -1)) := by
  (refine Spec.of_body Try.func92 rfl (by rw [Try.ntmps92]; simp) 0 (by simp) ?_; rw [Try.results92, Try.ntmps92]; simp only [entry, zipArgs, Nat.reduceAdd])
  repeat (first | apply Wp.seq | apply Wp.block | (apply Run.next; (simp only [push_cast, seval, hcv, List.map_append] <;> (try simp (disch := omega) only [wI, wU, wC]) <;> exact rfl); (focus ((try simp only [push_cast, seval, hcv, List.map_append]) <;> exact sT))) | ((first | apply Run.nil | apply Wp.skip); dsimp only [sQ, tQ, bQ]) | (apply Wp.run; (dsimp only [List.map] <;> exact rfl); exact rfl) | (apply Wp.exit; dsimp only [sQ, tQ, bQ]; simp only [reduceIte]))
  refine Wp.loop (fun k : Nat => { t := [(0, .ints l), (1, .clo g caps), (7, .int l.length), (8, .int k)], m := [], n := 19 }) (fun k => k ≤ l.length ∧ ∀ j, j < k → p (l.getD j 0) = false) (fun k => l.length - k) 0 ?_ ?_ ?_
  · (refine Le.of ?_ ?_ rfl rfl <;> (try simp only [push_cast, seval, hcv, List.map_append]) <;> (try (with_reducible rfl)))
  · simp
  · rintro k ⟨hk1, hk2⟩
    repeat (first | apply Wp.seq | apply Wp.block | (apply Run.next; (simp only [push_cast, seval, hcv, List.map_append] <;> (try simp (disch := omega) only [wI, wU, wC]) <;> exact rfl); (focus ((try simp only [push_cast, seval, hcv, List.map_append]) <;> exact sT))) | ((first | apply Run.nil | apply Wp.skip); dsimp only [sQ, tQ, bQ]) | (apply Wp.run; (dsimp only [List.map] <;> exact rfl); exact rfl) | (apply Wp.exit; dsimp only [sQ, tQ, bQ]; simp only [reduceIte]))
    (apply Wp.cond; (simp only [push_cast, seval, hcv, List.map_append] <;> (try simp (disch := omega) only [wI, wU, wC]) <;> exact rfl))
    · (intro hc; try simp only [decide_eq_true_eq, decide_eq_false_iff_not, Bool.and_eq_true, Bool.or_eq_true, Bool.not_eq_true, Bool.not_eq_false, Bool.not_eq_true', Bool.not_eq_false', Bool.and_eq_false_iff, Bool.or_eq_false_iff, Int.not_lt, Int.not_le, Int.ofNat_lt, Int.ofNat_le] at hc)
      have hpk := hp _ (memI hc)
      generalize hx : l.getD k 0 = x at hpk
      repeat (first | apply Wp.seq | apply Wp.block | (apply Run.next; (simp only [push_cast, seval, hcv, List.map_append, hx] <;> (try simp (disch := omega) only [wI, wU, wC]) <;> exact rfl); (focus ((try simp only [push_cast, seval, hcv, List.map_append, hx]) <;> exact sT))) | ((first | apply Run.nil | apply Wp.skip); dsimp only [sQ, tQ, bQ]) | (apply Wp.run; (dsimp only [List.map] <;> exact rfl); exact rfl) | (apply Wp.exit; dsimp only [sQ, tQ, bQ]; simp only [reduceIte]))
      (apply Run.pureP; (simp only [push_cast, seval, hcv, List.map_append, hx] <;> (try simp (disch := omega) only [wI, wU, wC]) <;> exact rfl); (exact hg); (exact hpk); (focus (simp only [push_cast, seval, hcv, List.map_append, hx] <;> first | trivial | assumption | (refine ⟨?_, ?_⟩ <;> assumption) | (simp; done))); (try dsimp only [putA, optG]))
      repeat (first | apply Wp.seq | apply Wp.block | (apply Run.next; (simp only [push_cast, seval, hcv, List.map_append, hx] <;> (try simp (disch := omega) only [wI, wU, wC]) <;> exact rfl); (focus ((try simp only [push_cast, seval, hcv, List.map_append, hx]) <;> exact sT))) | ((first | apply Run.nil | apply Wp.skip); dsimp only [sQ, tQ, bQ]) | (apply Wp.run; (dsimp only [List.map] <;> exact rfl); exact rfl) | (apply Wp.exit; dsimp only [sQ, tQ, bQ]; simp only [reduceIte]))
      (apply Wp.cond; (simp only [push_cast, seval, hcv, List.map_append, hx] <;> (try simp (disch := omega) only [wI, wU, wC]) <;> exact rfl))
      · intro h2
        rw [← hx] at h2
        obtain ⟨e1, e2⟩ := findI hc hk2 h2
        repeat (first | apply Wp.seq | apply Wp.block | (apply Run.next; (simp only [push_cast, seval, hcv, List.map_append, hx] <;> (try simp (disch := omega) only [wI, wU, wC]) <;> exact rfl); (focus ((try simp only [push_cast, seval, hcv, List.map_append, hx]) <;> exact sT))) | ((first | apply Run.nil | apply Wp.skip); dsimp only [sQ, tQ, bQ]) | (apply Wp.run; (dsimp only [List.map] <;> exact rfl); exact rfl) | (apply Wp.exit; dsimp only [sQ, tQ, bQ]; simp only [reduceIte]))
        (apply Wp.ret; (try dsimp only [sQ, tQ, bQ]); apply leave0; exact rfl; (simp only [push_cast, seval, hcv, List.map_append, hx] <;> (try simp (disch := omega) only [wI, wU, wC]) <;> exact rfl); all_goals (try simp only [push_cast, seval, hcv, List.map_append, hx]); (try rfl))
        rw [e1, e2]; rfl
      · intro h2
        repeat (first | apply Wp.seq | apply Wp.block | (apply Run.next; (simp only [push_cast, seval, hcv, List.map_append, hx] <;> (try simp (disch := omega) only [wI, wU, wC]) <;> exact rfl); (focus ((try simp only [push_cast, seval, hcv, List.map_append, hx]) <;> exact sT))) | ((first | apply Run.nil | apply Wp.skip); dsimp only [sQ, tQ, bQ]) | (apply Wp.run; (dsimp only [List.map] <;> exact rfl); exact rfl) | (apply Wp.exit; dsimp only [sQ, tQ, bQ]; simp only [reduceIte]))
        refine ⟨k + 1, ?_, ⟨by omega, fun j hj => ?_⟩, by omega⟩
        · (refine Le.of ?_ ?_ rfl rfl <;> (try simp only [push_cast, seval, hcv, List.map_append, hx]) <;> (try (with_reducible rfl)))
        · by_cases hjk : j = k
          · subst hjk; rw [hx]; exact h2
          · exact hk2 j (by omega)
    · (intro hc; try simp only [decide_eq_true_eq, decide_eq_false_iff_not, Bool.and_eq_true, Bool.or_eq_true, Bool.not_eq_true, Bool.not_eq_false, Bool.not_eq_true', Bool.not_eq_false', Bool.and_eq_false_iff, Bool.or_eq_false_iff, Int.not_lt, Int.not_le, Int.ofNat_lt, Int.ofNat_le] at hc)
      repeat (first | apply Wp.seq | apply Wp.block | (apply Run.next; (simp only [push_cast, seval, hcv, List.map_append] <;> (try simp (disch := omega) only [wI, wU, wC]) <;> exact rfl); (focus ((try simp only [push_cast, seval, hcv, List.map_append]) <;> exact sT))) | ((first | apply Run.nil | apply Wp.skip); dsimp only [sQ, tQ, bQ]) | (apply Wp.run; (dsimp only [List.map] <;> exact rfl); exact rfl) | (apply Wp.exit; dsimp only [sQ, tQ, bQ]; simp only [reduceIte]))
      obtain rfl : k = l.length := by omega
      have e1 := anyNoneI hk2
      (apply Wp.ret; (try dsimp only [sQ, tQ, bQ]); apply leave0; exact rfl; (simp only [push_cast, seval, hcv, List.map_append] <;> (try simp (disch := omega) only [wI, wU, wC]) <;> exact rfl); all_goals (try simp only [push_cast, seval, hcv, List.map_append]); (try rfl))
      rw [e1]; rfl
theorem containsFuncI (l : List Int) (g : FuncId) (caps : List AV) (p : Int → Bool) (hg : Enters Try.prog g) (hk : okL 0 caps) (hcv : ∀ m, caps.map (view m) = caps ∧ caps.map (view2 m) = caps) (hp : ∀ x ∈ l, Pure Try.prog g (AV.int x :: caps) (.bool (p x))) (hl : l.length ≤ 9223372036854775807) :
    Pure Try.prog 63 [.ints l, .clo g caps] (.bool (l.any p)) := by
  (refine Spec.of_body Try.func63 rfl (by rw [Try.ntmps63]; simp) 0 (by simp) ?_; rw [Try.results63, Try.ntmps63]; simp only [entry, zipArgs, Nat.reduceAdd])
  repeat (first | apply Wp.seq | apply Wp.block | (apply Run.next; (simp only [push_cast, seval, hcv, List.map_append] <;> (try simp (disch := omega) only [wI, wU, wC]) <;> exact rfl); (focus ((try simp only [push_cast, seval, hcv, List.map_append]) <;> exact sT))) | ((first | apply Run.nil | apply Wp.skip); dsimp only [sQ, tQ, bQ]) | (apply Wp.run; (dsimp only [List.map] <;> exact rfl); exact rfl) | (apply Wp.exit; dsimp only [sQ, tQ, bQ]; simp only [reduceIte]))
  (apply Run.pureP; (simp only [push_cast, seval, hcv, List.map_append] <;> (try simp (disch := omega) only [wI, wU, wC]) <;> exact rfl); (exact (Enters.of Try.func92 rfl rfl)); (exact indexFuncI l g caps p hg hk hcv hp hl); (focus (simp only [push_cast, seval, hcv, List.map_append] <;> first | trivial | assumption | (refine ⟨?_, ?_⟩ <;> assumption) | (simp; done))); (try dsimp only [putA, optG]))
  repeat (first | apply Wp.seq | apply Wp.block | (apply Run.next; (simp only [push_cast, seval, hcv, List.map_append] <;> (try simp (disch := omega) only [wI, wU, wC]) <;> exact rfl); (focus ((try simp only [push_cast, seval, hcv, List.map_append]) <;> exact sT))) | ((first | apply Run.nil | apply Wp.skip); dsimp only [sQ, tQ, bQ]) | (apply Wp.run; (dsimp only [List.map] <;> exact rfl); exact rfl) | (apply Wp.exit; dsimp only [sQ, tQ, bQ]; simp only [reduceIte]))
  (apply Wp.ret; (try dsimp only [sQ, tQ, bQ]); apply leave0; exact rfl; (simp only [push_cast, seval, hcv, List.map_append] <;> (try simp (disch := omega) only [wI, wU, wC]) <;> exact rfl); all_goals (try simp only [push_cast, seval, hcv, List.map_append]); (try rfl))
  split <;> simp_all
end Go.Proofs.Try
set_option maxHeartbeats 8000000
set_option maxRecDepth 20000
namespace Go.Proofs.Try
open Go.Vg

/-! whether a staff is right -/
end Go.Proofs.Try
set_option maxHeartbeats 8000000
set_option maxRecDepth 20000
namespace Go.Proofs.Try
open Go.Vg
theorem sfA_v (cs : List Ch) (ms : List Ma) (cake : Int) (ls : List Bk) : (∃ s, sfA cs ms cake ls = .ints s) ∨ sfA cs ms cake ls = .emp := by
  unfold sfA; split
  · cases stR cs ms ls ls.length [] with
    | some s => exact .inl ⟨s, rfl⟩
    | none => exact .inr rfl
  · exact .inr rfl
end Go.Proofs.Try
set_option maxHeartbeats 8000000
set_option maxRecDepth 20000
namespace Go.Vg
open Go.RowKit
/-- branches meet again in one state -/
theorem Wp.cut {P : Program} {r : Option Nat} {c : Code} {Q : Exit → S → Prop} {s : S} (s1 : S) (h1 : Wp P r c (tQ (fun s' => Le s' s1) Q) s) (h2 : ∀ s', Le s' s1 → Q .normal s') : Wp P r c Q s :=
  h1.mono (by
    intro e s' h
    cases e
    case normal => exact h2 s' h
    all_goals exact h)
end Go.Vg
namespace Go.Proofs.Try
open Go.Vg
end Go.Proofs.Try
