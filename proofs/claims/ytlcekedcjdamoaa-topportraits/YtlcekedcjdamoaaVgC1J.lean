/- A part of the proof of TopPortraits: contracts of functions, with plain laws that they need. -/
import Derived.Test.YtlcekedcjdamoaaVgT
import Derived.Test.YtlcekedcjdamoaaVgVw
import Derived.Test.YtlcekedcjdamoaaVgFr
import Derived.Test.YtlcekedcjdamoaaVgVz
set_option linter.all false
set_option maxHeartbeats 8000000
namespace Go.Proofs.Try
open Go.Vg

/-! code locks and clues about places -/
structure Cl where
  kind : Int
  a : Int
  b : Int
  n : Int
  m : Int
  no : Bool
def clA (x : Cl) : AV := .agg [.int x.kind, .int x.a, .int x.b, .int x.n, .int x.m, .lst 1 [], .bool x.no]
abbrev cl0 : Cl := ⟨0, 0, 0, 0, 0, false⟩
abbrev lkA (w s : Int) : AV := .agg [.int w, .int s]
theorem getD_cl {l : List Cl} {i : Nat} (h : i < l.length) : (l.map clA).getD i (.agg [.val (.int .i64 0), .val (.int .i64 0), .val (.int .i64 0), .val (.int .i64 0), .val (.int .i64 0), .emp, .val (.bool false)]) = clA (l.getD i cl0) := by
  simp [h]
theorem okL_mapC {α : Type} {f : α → AV} (k : Nat) (l : List α) (h : ∀ x, (f x).ok k) : okL k (l.map f) := okL_iff.2 fun x hx => by
  obtain ⟨y, _, rfl⟩ := List.mem_map.1 hx
  exact h y
theorem okL_cl (k : Nat) (l : List Cl) : okL k (l.map clA) = True := eq_true (okL_mapC k l fun x => by simp [clA, AV.ok, okL])
attribute [push_cast] clA okL_cl
def wiC (n lo hi : Int) : Bool := decide (lo ≤ n) && decide (n ≤ hi)
theorem wiC_ok {n lo hi : Int} (h1 : lo ≤ n) (h2 : n ≤ hi) : wiC n lo hi = true := by simp [wiC, h1, h2]
theorem cwithin_pure (n lo hi : Int) : Pure Try.prog 20 [.int n, .int lo, .int hi] (.bool (wiC n lo hi)) := by
  (refine Spec.of_body Try.func20 rfl (by rw [Try.ntmps20]; simp) 0 (by simp) ?_; rw [Try.results20, Try.ntmps20]; simp only [entry, zipArgs, Nat.reduceAdd])
  repeat (first | apply Wp.seq | apply Wp.block | (apply Run.next; (simp only [push_cast, seval] <;> (try simp (disch := omega) only [wI, wU, wC]) <;> exact rfl); (focus ((try simp only [push_cast, seval]) <;> exact sT))) | ((first | apply Run.nil | apply Wp.skip); dsimp only [sQ, tQ, bQ]) | (apply Wp.run; (dsimp only [List.map] <;> exact rfl); exact rfl) | (apply Wp.exit; dsimp only [sQ, tQ, bQ]; simp only [reduceIte]))
  (apply Wp.ret; (try dsimp only [sQ, tQ, bQ]); apply leave0; exact rfl; (simp only [push_cast, seval] <;> (try simp (disch := omega) only [wI, wU, wC]) <;> exact rfl); all_goals (try simp only [push_cast, seval]); (try rfl))
theorem wheel_pure {w s n : Int} (hw : w ≤ 100) (h1 : 0 ≤ n) (h2 : n < w) : Pure Try.prog 61 [lkA w s, .int n] (.bool true) := by
  have hc := cwithin_pure n 0 (w - 1)
  rw [wiC_ok h1 (by omega)] at hc
  (refine Spec.of_body Try.func61 rfl (by rw [Try.ntmps61]; simp) 0 (by simp) ?_; rw [Try.results61, Try.ntmps61]; simp only [entry, zipArgs, Nat.reduceAdd])
  repeat (first | apply Wp.seq | apply Wp.block | (apply Run.next; (simp only [push_cast, seval] <;> (try simp (disch := omega) only [wI, wU, wC]) <;> exact rfl); (focus ((try simp only [push_cast, seval]) <;> exact sT))) | ((first | apply Run.nil | apply Wp.skip); dsimp only [sQ, tQ, bQ]) | (apply Wp.run; (dsimp only [List.map] <;> exact rfl); exact rfl) | (apply Wp.exit; dsimp only [sQ, tQ, bQ]; simp only [reduceIte]))
  (apply Run.pureP; (simp only [push_cast, seval] <;> (try simp (disch := omega) only [wI, wU, wC]) <;> exact rfl); (exact (Enters.of Try.func20 rfl rfl)); (exact hc); (focus (simp only [push_cast, seval] <;> first | trivial | assumption | (refine ⟨?_, ?_⟩ <;> assumption) | (simp; done))); (try dsimp only [putA, optG]))
  repeat (first | apply Wp.seq | apply Wp.block | (apply Run.next; (simp only [push_cast, seval] <;> (try simp (disch := omega) only [wI, wU, wC]) <;> exact rfl); (focus ((try simp only [push_cast, seval]) <;> exact sT))) | ((first | apply Run.nil | apply Wp.skip); dsimp only [sQ, tQ, bQ]) | (apply Wp.run; (dsimp only [List.map] <;> exact rfl); exact rfl) | (apply Wp.exit; dsimp only [sQ, tQ, bQ]; simp only [reduceIte]))
  (apply Wp.ret; (try dsimp only [sQ, tQ, bQ]); apply leave0; exact rfl; (simp only [push_cast, seval] <;> (try simp (disch := omega) only [wI, wU, wC]) <;> exact rfl); all_goals (try simp only [push_cast, seval]); (try rfl))
theorem symbol_pure {w s n : Int} (hw : s ≤ 100) (h1 : 0 ≤ n) (h2 : n < s) : Pure Try.prog 62 [lkA w s, .int n] (.bool true) := by
  have hc := cwithin_pure n 0 (s - 1)
  rw [wiC_ok h1 (by omega)] at hc
  (refine Spec.of_body Try.func62 rfl (by rw [Try.ntmps62]; simp) 0 (by simp) ?_; rw [Try.results62, Try.ntmps62]; simp only [entry, zipArgs, Nat.reduceAdd])
  repeat (first | apply Wp.seq | apply Wp.block | (apply Run.next; (simp only [push_cast, seval] <;> (try simp (disch := omega) only [wI, wU, wC]) <;> exact rfl); (focus ((try simp only [push_cast, seval]) <;> exact sT))) | ((first | apply Run.nil | apply Wp.skip); dsimp only [sQ, tQ, bQ]) | (apply Wp.run; (dsimp only [List.map] <;> exact rfl); exact rfl) | (apply Wp.exit; dsimp only [sQ, tQ, bQ]; simp only [reduceIte]))
  (apply Run.pureP; (simp only [push_cast, seval] <;> (try simp (disch := omega) only [wI, wU, wC]) <;> exact rfl); (exact (Enters.of Try.func20 rfl rfl)); (exact hc); (focus (simp only [push_cast, seval] <;> first | trivial | assumption | (refine ⟨?_, ?_⟩ <;> assumption) | (simp; done))); (try dsimp only [putA, optG]))
  repeat (first | apply Wp.seq | apply Wp.block | (apply Run.next; (simp only [push_cast, seval] <;> (try simp (disch := omega) only [wI, wU, wC]) <;> exact rfl); (focus ((try simp only [push_cast, seval]) <;> exact sT))) | ((first | apply Run.nil | apply Wp.skip); dsimp only [sQ, tQ, bQ]) | (apply Wp.run; (dsimp only [List.map] <;> exact rfl); exact rfl) | (apply Wp.exit; dsimp only [sQ, tQ, bQ]; simp only [reduceIte]))
  (apply Wp.ret; (try dsimp only [sQ, tQ, bQ]); apply leave0; exact rfl; (simp only [push_cast, seval] <;> (try simp (disch := omega) only [wI, wU, wC]) <;> exact rfl); all_goals (try simp only [push_cast, seval]); (try rfl))
/-- a clue about a wheel's symbol, or about two wheels -/
def goodC (w s : Int) (x : Cl) : Prop := (x.kind = 1 ∧ 0 ≤ x.a ∧ x.a < w ∧ 0 ≤ x.n ∧ x.n < s ∧ x.b = 0 ∧ x.m = 0) ∨ (x.kind = 4 ∧ 0 ≤ x.a ∧ x.a < w ∧ 0 ≤ x.b ∧ x.b < w ∧ x.a ≠ x.b ∧ x.n = 0 ∧ x.m = 0)
theorem clue_at {w s a n : Int} {no : Bool} (hw : w ≤ 100) (hs : s ≤ 100) (h1 : 0 ≤ a) (h2 : a < w) (h3 : 0 ≤ n) (h4 : n < s) : Pure Try.prog 41 [lkA w s, clA ⟨1, a, 0, n, 0, no⟩] (.bool true) := by
  have c1 := wheel_pure (s := s) hw h1 h2
  have c2 := symbol_pure (w := w) hs h3 h4
  (refine Spec.of_body Try.func41 rfl (by rw [Try.ntmps41]; simp) 0 (by simp) ?_; rw [Try.results41, Try.ntmps41]; simp only [entry, zipArgs, Nat.reduceAdd])
  repeat (first | apply Wp.seq | apply Wp.block | (apply Run.next; (simp only [push_cast, seval] <;> (try simp (disch := omega) only [wI, wU, wC]) <;> exact rfl); (focus ((try simp only [push_cast, seval]) <;> exact sT))) | ((first | apply Run.nil | apply Wp.skip); dsimp only [sQ, tQ, bQ]) | (apply Wp.run; (dsimp only [List.map] <;> exact rfl); exact rfl) | (apply Wp.exit; dsimp only [sQ, tQ, bQ]; simp only [reduceIte]) | (apply Run.gtrue; (simp only [push_cast, seval] <;> (try simp (disch := omega) only [wI, wU, wC]) <;> exact rfl); (simp only [push_cast, seval] <;> (try simp (disch := omega) only [wI, wU, wC]) <;> exact rfl)) | (apply Run.gfalse (.bool false); (simp only [push_cast, seval] <;> (try simp (disch := omega) only [wI, wU, wC]) <;> exact rfl); dsimp only [S.put, optG]) | (apply Wp.condT; (simp only [push_cast, seval] <;> (try simp (disch := omega) only [wI, wU, wC]) <;> exact rfl)) | (apply Wp.condF; (simp only [push_cast, seval] <;> (try simp (disch := omega) only [wI, wU, wC]) <;> exact rfl)))
  (apply Wp.runW 5 7 (fun _ => [⟨0, .row 2 [lkA w s]⟩, ⟨0, .row 7 [clA ⟨1, a, 0, n, 0, no⟩]⟩, ⟨0, .row 7 [.agg [.int 1, .int a, .int 0, .int 0, .int 0, .emp, .bool no]]⟩]) mixed; (dsimp only [List.map] <;> exact rfl); exact rfl; kernel_rfl; kernel_rfl; (dsimp only; ((repeat (apply AbW.both; exact rfl; kernel_rfl; (simp only [push_cast, seval] <;> (try simp (disch := omega) only [wI, wU, wC]) <;> exact rfl); (focus ((try simp only [push_cast, seval]) <;> exact sT)); (simp only [push_cast, seval] <;> (try simp (disch := omega) only [wI, wU, wC]) <;> exact rfl); (focus ((try simp only [push_cast, seval]) <;> exact sT)); dsimp only [upd])); (apply AbW.eff1; exact rfl; exact rfl; (simp only [push_cast, seval] <;> (try simp (disch := omega) only [wI, wU, wC]) <;> exact rfl); (focus ((try simp only [push_cast, seval]) <;> exact sT)); (try dsimp only [upd])); (apply AbW.both; exact rfl; kernel_rfl; (simp only [push_cast, seval] <;> (try simp (disch := omega) only [wI, wU, wC]) <;> exact rfl); (focus ((try simp only [push_cast, seval]) <;> exact sT)); (simp only [push_cast, seval] <;> (try simp (disch := omega) only [wI, wU, wC]) <;> exact rfl); (focus ((try simp only [push_cast, seval]) <;> exact sT)); dsimp only [upd]); (apply AbW.eff2; exact rfl; exact rfl; (simp only [push_cast, seval] <;> (try simp (disch := omega) only [wI, wU, wC]) <;> exact rfl); (focus ((try simp only [push_cast, seval]) <;> exact sT)); (try dsimp only [upd]))); exact AbW.nil))
  repeat (first | apply Wp.seq | apply Wp.block | (apply Run.next; (simp only [push_cast, seval] <;> (try simp (disch := omega) only [wI, wU, wC]) <;> exact rfl); (focus ((try simp only [push_cast, seval]) <;> exact sT))) | ((first | apply Run.nil | apply Wp.skip); dsimp only [sQ, tQ, bQ]) | (apply Wp.run; (dsimp only [List.map] <;> exact rfl); exact rfl) | (apply Wp.exit; dsimp only [sQ, tQ, bQ]; simp only [reduceIte]) | (apply Run.gtrue; (simp only [push_cast, seval] <;> (try simp (disch := omega) only [wI, wU, wC]) <;> exact rfl); (simp only [push_cast, seval] <;> (try simp (disch := omega) only [wI, wU, wC]) <;> exact rfl)) | (apply Run.gfalse (.bool false); (simp only [push_cast, seval] <;> (try simp (disch := omega) only [wI, wU, wC]) <;> exact rfl); dsimp only [S.put, optG]) | (apply Wp.condT; (simp only [push_cast, seval] <;> (try simp (disch := omega) only [wI, wU, wC]) <;> exact rfl)) | (apply Wp.condF; (simp only [push_cast, seval] <;> (try simp (disch := omega) only [wI, wU, wC]) <;> exact rfl)))
  (apply Run.pureP; (simp only [push_cast, seval] <;> (try simp (disch := omega) only [wI, wU, wC]) <;> exact rfl); (exact (Enters.of Try.func61 rfl rfl)); (exact c1); (focus (simp only [push_cast, seval] <;> first | trivial | assumption | (refine ⟨?_, ?_⟩ <;> assumption) | (simp; done))); (try dsimp only [putA, optG]))
  repeat (first | apply Wp.seq | apply Wp.block | (apply Run.next; (simp only [push_cast, seval] <;> (try simp (disch := omega) only [wI, wU, wC]) <;> exact rfl); (focus ((try simp only [push_cast, seval]) <;> exact sT))) | ((first | apply Run.nil | apply Wp.skip); dsimp only [sQ, tQ, bQ]) | (apply Wp.run; (dsimp only [List.map] <;> exact rfl); exact rfl) | (apply Wp.exit; dsimp only [sQ, tQ, bQ]; simp only [reduceIte]) | (apply Run.gtrue; (simp only [push_cast, seval] <;> (try simp (disch := omega) only [wI, wU, wC]) <;> exact rfl); (simp only [push_cast, seval] <;> (try simp (disch := omega) only [wI, wU, wC]) <;> exact rfl)) | (apply Run.gfalse (.bool false); (simp only [push_cast, seval] <;> (try simp (disch := omega) only [wI, wU, wC]) <;> exact rfl); dsimp only [S.put, optG]) | (apply Wp.condT; (simp only [push_cast, seval] <;> (try simp (disch := omega) only [wI, wU, wC]) <;> exact rfl)) | (apply Wp.condF; (simp only [push_cast, seval] <;> (try simp (disch := omega) only [wI, wU, wC]) <;> exact rfl)))
  (apply Run.pureP; (simp only [push_cast, seval] <;> (try simp (disch := omega) only [wI, wU, wC]) <;> exact rfl); (exact (Enters.of Try.func62 rfl rfl)); (exact c2); (focus (simp only [push_cast, seval] <;> first | trivial | assumption | (refine ⟨?_, ?_⟩ <;> assumption) | (simp; done))); (try dsimp only [putA, optG]))
  repeat (first | apply Wp.seq | apply Wp.block | (apply Run.next; (simp only [push_cast, seval] <;> (try simp (disch := omega) only [wI, wU, wC]) <;> exact rfl); (focus ((try simp only [push_cast, seval]) <;> exact sT))) | ((first | apply Run.nil | apply Wp.skip); dsimp only [sQ, tQ, bQ]) | (apply Wp.run; (dsimp only [List.map] <;> exact rfl); exact rfl) | (apply Wp.exit; dsimp only [sQ, tQ, bQ]; simp only [reduceIte]) | (apply Run.gtrue; (simp only [push_cast, seval] <;> (try simp (disch := omega) only [wI, wU, wC]) <;> exact rfl); (simp only [push_cast, seval] <;> (try simp (disch := omega) only [wI, wU, wC]) <;> exact rfl)) | (apply Run.gfalse (.bool false); (simp only [push_cast, seval] <;> (try simp (disch := omega) only [wI, wU, wC]) <;> exact rfl); dsimp only [S.put, optG]) | (apply Wp.condT; (simp only [push_cast, seval] <;> (try simp (disch := omega) only [wI, wU, wC]) <;> exact rfl)) | (apply Wp.condF; (simp only [push_cast, seval] <;> (try simp (disch := omega) only [wI, wU, wC]) <;> exact rfl)))
  (apply Wp.ret; (try dsimp only [sQ, tQ, bQ]); apply leave0; exact rfl; (simp only [push_cast, seval] <;> (try simp (disch := omega) only [wI, wU, wC]) <;> exact rfl); all_goals (try simp only [push_cast, seval]); (try rfl))
theorem clue_same {w s a b : Int} {no : Bool} (hw : w ≤ 100) (h1 : 0 ≤ a) (h2 : a < w) (h3 : 0 ≤ b) (h4 : b < w) (h5 : a ≠ b) : Pure Try.prog 41 [lkA w s, clA ⟨4, a, b, 0, 0, no⟩] (.bool true) := by
  have c1 := wheel_pure (s := s) hw h1 h2
  have c2 := wheel_pure (s := s) hw h3 h4
  (refine Spec.of_body Try.func41 rfl (by rw [Try.ntmps41]; simp) 0 (by simp) ?_; rw [Try.results41, Try.ntmps41]; simp only [entry, zipArgs, Nat.reduceAdd])
  repeat (first | apply Wp.seq | apply Wp.block | (apply Run.next; (simp only [push_cast, seval] <;> (try simp (disch := omega) only [wI, wU, wC]) <;> exact rfl); (focus ((try simp only [push_cast, seval]) <;> exact sT))) | ((first | apply Run.nil | apply Wp.skip); dsimp only [sQ, tQ, bQ]) | (apply Wp.run; (dsimp only [List.map] <;> exact rfl); exact rfl) | (apply Wp.exit; dsimp only [sQ, tQ, bQ]; simp only [reduceIte]) | (apply Run.gtrue; (simp only [push_cast, seval] <;> (try simp (disch := omega) only [wI, wU, wC]) <;> exact rfl); (simp only [push_cast, seval] <;> (try simp (disch := omega) only [wI, wU, wC]) <;> exact rfl)) | (apply Run.gfalse (.bool false); (simp only [push_cast, seval] <;> (try simp (disch := omega) only [wI, wU, wC]) <;> exact rfl); dsimp only [S.put, optG]) | (apply Wp.condT; (simp only [push_cast, seval] <;> (try simp (disch := omega) only [wI, wU, wC]) <;> exact rfl)) | (apply Wp.condF; (simp only [push_cast, seval] <;> (try simp (disch := omega) only [wI, wU, wC]) <;> exact rfl)))
  (apply Wp.runW 5 7 (fun _ => [⟨0, .row 2 [lkA w s]⟩, ⟨0, .row 7 [clA ⟨4, a, b, 0, 0, no⟩]⟩, ⟨0, .row 7 [.agg [.int 4, .int a, .int 0, .int 0, .int 0, .emp, .bool no]]⟩]) mixed; (dsimp only [List.map] <;> exact rfl); exact rfl; kernel_rfl; kernel_rfl; (dsimp only; ((repeat (apply AbW.both; exact rfl; kernel_rfl; (simp only [push_cast, seval] <;> (try simp (disch := omega) only [wI, wU, wC]) <;> exact rfl); (focus ((try simp only [push_cast, seval]) <;> exact sT)); (simp only [push_cast, seval] <;> (try simp (disch := omega) only [wI, wU, wC]) <;> exact rfl); (focus ((try simp only [push_cast, seval]) <;> exact sT)); dsimp only [upd])); (apply AbW.eff1; exact rfl; exact rfl; (simp only [push_cast, seval] <;> (try simp (disch := omega) only [wI, wU, wC]) <;> exact rfl); (focus ((try simp only [push_cast, seval]) <;> exact sT)); (try dsimp only [upd])); (apply AbW.both; exact rfl; kernel_rfl; (simp only [push_cast, seval] <;> (try simp (disch := omega) only [wI, wU, wC]) <;> exact rfl); (focus ((try simp only [push_cast, seval]) <;> exact sT)); (simp only [push_cast, seval] <;> (try simp (disch := omega) only [wI, wU, wC]) <;> exact rfl); (focus ((try simp only [push_cast, seval]) <;> exact sT)); dsimp only [upd]); (apply AbW.eff2; exact rfl; exact rfl; (simp only [push_cast, seval] <;> (try simp (disch := omega) only [wI, wU, wC]) <;> exact rfl); (focus ((try simp only [push_cast, seval]) <;> exact sT)); (try dsimp only [upd]))); exact AbW.nil))
  repeat (first | apply Wp.seq | apply Wp.block | (apply Run.next; (simp only [push_cast, seval] <;> (try simp (disch := omega) only [wI, wU, wC]) <;> exact rfl); (focus ((try simp only [push_cast, seval]) <;> exact sT))) | ((first | apply Run.nil | apply Wp.skip); dsimp only [sQ, tQ, bQ]) | (apply Wp.run; (dsimp only [List.map] <;> exact rfl); exact rfl) | (apply Wp.exit; dsimp only [sQ, tQ, bQ]; simp only [reduceIte]) | (apply Run.gtrue; (simp only [push_cast, seval] <;> (try simp (disch := omega) only [wI, wU, wC]) <;> exact rfl); (simp only [push_cast, seval] <;> (try simp (disch := omega) only [wI, wU, wC]) <;> exact rfl)) | (apply Run.gfalse (.bool false); (simp only [push_cast, seval] <;> (try simp (disch := omega) only [wI, wU, wC]) <;> exact rfl); dsimp only [S.put, optG]) | (apply Wp.condT; (simp only [push_cast, seval] <;> (try simp (disch := omega) only [wI, wU, wC]) <;> exact rfl)) | (apply Wp.condF; (simp only [push_cast, seval] <;> (try simp (disch := omega) only [wI, wU, wC]) <;> exact rfl)))
  (apply Run.pureP; (simp only [push_cast, seval] <;> (try simp (disch := omega) only [wI, wU, wC]) <;> exact rfl); (exact (Enters.of Try.func61 rfl rfl)); (exact c1); (focus (simp only [push_cast, seval] <;> first | trivial | assumption | (refine ⟨?_, ?_⟩ <;> assumption) | (simp; done))); (try dsimp only [putA, optG]))
  repeat (first | apply Wp.seq | apply Wp.block | (apply Run.next; (simp only [push_cast, seval] <;> (try simp (disch := omega) only [wI, wU, wC]) <;> exact rfl); (focus ((try simp only [push_cast, seval]) <;> exact sT))) | ((first | apply Run.nil | apply Wp.skip); dsimp only [sQ, tQ, bQ]) | (apply Wp.run; (dsimp only [List.map] <;> exact rfl); exact rfl) | (apply Wp.exit; dsimp only [sQ, tQ, bQ]; simp only [reduceIte]) | (apply Run.gtrue; (simp only [push_cast, seval] <;> (try simp (disch := omega) only [wI, wU, wC]) <;> exact rfl); (simp only [push_cast, seval] <;> (try simp (disch := omega) only [wI, wU, wC]) <;> exact rfl)) | (apply Run.gfalse (.bool false); (simp only [push_cast, seval] <;> (try simp (disch := omega) only [wI, wU, wC]) <;> exact rfl); dsimp only [S.put, optG]) | (apply Wp.condT; (simp only [push_cast, seval] <;> (try simp (disch := omega) only [wI, wU, wC]) <;> exact rfl)) | (apply Wp.condF; (simp only [push_cast, seval] <;> (try simp (disch := omega) only [wI, wU, wC]) <;> exact rfl)))
  (apply Run.pureP; (simp only [push_cast, seval] <;> (try simp (disch := omega) only [wI, wU, wC]) <;> exact rfl); (exact (Enters.of Try.func61 rfl rfl)); (exact c2); (focus (simp only [push_cast, seval] <;> first | trivial | assumption | (refine ⟨?_, ?_⟩ <;> assumption) | (simp; done))); (try dsimp only [putA, optG]))
  repeat (first | apply Wp.seq | apply Wp.block | (apply Run.next; (simp only [push_cast, seval] <;> (try simp (disch := omega) only [wI, wU, wC]) <;> exact rfl); (focus ((try simp only [push_cast, seval]) <;> exact sT))) | ((first | apply Run.nil | apply Wp.skip); dsimp only [sQ, tQ, bQ]) | (apply Wp.run; (dsimp only [List.map] <;> exact rfl); exact rfl) | (apply Wp.exit; dsimp only [sQ, tQ, bQ]; simp only [reduceIte]) | (apply Run.gtrue; (simp only [push_cast, seval] <;> (try simp (disch := omega) only [wI, wU, wC]) <;> exact rfl); (simp only [push_cast, seval] <;> (try simp (disch := omega) only [wI, wU, wC]) <;> exact rfl)) | (apply Run.gfalse (.bool false); (simp only [push_cast, seval] <;> (try simp (disch := omega) only [wI, wU, wC]) <;> exact rfl); dsimp only [S.put, optG]) | (apply Wp.condT; (simp only [push_cast, seval] <;> (try simp (disch := omega) only [wI, wU, wC]) <;> exact rfl)) | (apply Wp.condF; (simp only [push_cast, seval] <;> (try simp (disch := omega) only [wI, wU, wC]) <;> exact rfl)))
  (apply Wp.ret; (try dsimp only [sQ, tQ, bQ]); apply leave0; exact rfl; (simp only [push_cast, seval] <;> (try simp (disch := omega) only [wI, wU, wC]) <;> exact rfl); all_goals (try simp only [push_cast, seval]); (try rfl))
  simp [h5]
theorem clue_good {w s : Int} {x : Cl} (hw : w ≤ 100) (hs : s ≤ 100) (h : goodC w s x) : Pure Try.prog 41 [lkA w s, clA x] (.bool true) := by
  obtain ⟨k, a, b, n, m, no⟩ := x
  rcases h with ⟨rfl, h1, h2, h3, h4, rfl, rfl⟩ | ⟨rfl, h1, h2, h3, h4, h5, rfl, rfl⟩
  · exact clue_at hw hs h1 h2 h3 h4
  · exact clue_same hw h1 h2 h3 h4 h5
theorem lcheck_pure {w s : Int} (h1 : 1 ≤ w) (h2 : w ≤ 4) (h3 : 2 ≤ s) (h4 : s ≤ 10) : Pure Try.prog 38 [lkA w s] (.int 0) := by
  have c1 := cwithin_pure w 1 4
  have c2 := cwithin_pure s 2 10
  rw [wiC_ok h1 h2] at c1
  rw [wiC_ok h3 h4] at c2
  (refine Spec.of_body Try.func38 rfl (by rw [Try.ntmps38]; simp) 0 (by simp) ?_; rw [Try.results38, Try.ntmps38]; simp only [entry, zipArgs, Nat.reduceAdd])
  repeat (first | apply Wp.seq | apply Wp.block | (apply Run.next; (simp only [push_cast, seval] <;> (try simp (disch := omega) only [wI, wU, wC]) <;> exact rfl); (focus ((try simp only [push_cast, seval]) <;> exact sT))) | ((first | apply Run.nil | apply Wp.skip); dsimp only [sQ, tQ, bQ]) | (apply Wp.run; (dsimp only [List.map] <;> exact rfl); exact rfl) | (apply Wp.exit; dsimp only [sQ, tQ, bQ]; simp only [reduceIte]))
  (apply Run.pureP; (simp only [push_cast, seval] <;> (try simp (disch := omega) only [wI, wU, wC]) <;> exact rfl); (exact (Enters.of Try.func20 rfl rfl)); (exact c1); (focus (simp only [push_cast, seval] <;> first | trivial | assumption | (refine ⟨?_, ?_⟩ <;> assumption) | (simp; done))); (try dsimp only [putA, optG]))
  repeat (first | apply Wp.seq | apply Wp.block | (apply Run.next; (simp only [push_cast, seval] <;> (try simp (disch := omega) only [wI, wU, wC]) <;> exact rfl); (focus ((try simp only [push_cast, seval]) <;> exact sT))) | ((first | apply Run.nil | apply Wp.skip); dsimp only [sQ, tQ, bQ]) | (apply Wp.run; (dsimp only [List.map] <;> exact rfl); exact rfl) | (apply Wp.exit; dsimp only [sQ, tQ, bQ]; simp only [reduceIte]) | (apply Run.gtrue; (simp only [push_cast, seval] <;> (try simp (disch := omega) only [wI, wU, wC]) <;> exact rfl); (simp only [push_cast, seval] <;> (try simp (disch := omega) only [wI, wU, wC]) <;> exact rfl)) | (apply Run.gfalse (.bool false); (simp only [push_cast, seval] <;> (try simp (disch := omega) only [wI, wU, wC]) <;> exact rfl); dsimp only [S.put, optG]) | (apply Wp.condT; (simp only [push_cast, seval] <;> (try simp (disch := omega) only [wI, wU, wC]) <;> exact rfl)) | (apply Wp.condF; (simp only [push_cast, seval] <;> (try simp (disch := omega) only [wI, wU, wC]) <;> exact rfl)))
  (apply Run.pureP; (simp only [push_cast, seval] <;> (try simp (disch := omega) only [wI, wU, wC]) <;> exact rfl); (exact (Enters.of Try.func20 rfl rfl)); (exact c2); (focus (simp only [push_cast, seval] <;> first | trivial | assumption | (refine ⟨?_, ?_⟩ <;> assumption) | (simp; done))); (try dsimp only [putA, optG]))
  repeat (first | apply Wp.seq | apply Wp.block | (apply Run.next; (simp only [push_cast, seval] <;> (try simp (disch := omega) only [wI, wU, wC]) <;> exact rfl); (focus ((try simp only [push_cast, seval]) <;> exact sT))) | ((first | apply Run.nil | apply Wp.skip); dsimp only [sQ, tQ, bQ]) | (apply Wp.run; (dsimp only [List.map] <;> exact rfl); exact rfl) | (apply Wp.exit; dsimp only [sQ, tQ, bQ]; simp only [reduceIte]) | (apply Run.gtrue; (simp only [push_cast, seval] <;> (try simp (disch := omega) only [wI, wU, wC]) <;> exact rfl); (simp only [push_cast, seval] <;> (try simp (disch := omega) only [wI, wU, wC]) <;> exact rfl)) | (apply Run.gfalse (.bool false); (simp only [push_cast, seval] <;> (try simp (disch := omega) only [wI, wU, wC]) <;> exact rfl); dsimp only [S.put, optG]) | (apply Wp.condT; (simp only [push_cast, seval] <;> (try simp (disch := omega) only [wI, wU, wC]) <;> exact rfl)) | (apply Wp.condF; (simp only [push_cast, seval] <;> (try simp (disch := omega) only [wI, wU, wC]) <;> exact rfl)))
  (apply Wp.ret; (try dsimp only [sQ, tQ, bQ]); apply leave0; exact rfl; (simp only [push_cast, seval] <;> (try simp (disch := omega) only [wI, wU, wC]) <;> exact rfl); all_goals (try simp only [push_cast, seval]); (try rfl))
theorem memCl {l : List Cl} {k : Nat} (h : k < l.length) : l.getD k cl0 ∈ l := by simp [h]
theorem findCl {l : List Cl} {p : Cl → Bool} {k : Nat} (hk : k < l.length) (h1 : ∀ j, j < k → p (l.getD j cl0) = false) (h2 : p (l.getD k cl0) = true) : l.any p = true ∧ l.findIdx p = k := by
  have e : ∀ j (hj : j < l.length), l.getD j cl0 = l[j] := fun j hj => by simp [hj]
  refine ⟨List.any_eq_true.2 ⟨l[k], List.getElem_mem hk, by rw [← e k hk]; exact h2⟩, ?_⟩
  rw [List.findIdx_eq hk]
  refine ⟨by rw [← e k hk]; exact h2, fun j hj => ?_⟩
  have := h1 j hj
  rw [e j (by omega)] at this
  exact this
theorem anyNoneCl {l : List Cl} {p : Cl → Bool} (h : ∀ j, j < l.length → p (l.getD j cl0) = false) : l.any p = false := by
  rw [List.any_eq_false]
  intro x hx
  obtain ⟨i, hi, rfl⟩ := List.getElem_of_mem hx
  have := h i hi
  simp [hi] at this
  simp [this]
theorem indexFuncCl (l : List Cl) (g : FuncId) (caps : List AV) (p : Cl → Bool) (hg : Enters Try.prog g) (hk : okL 0 caps) (hcv : ∀ m, caps.map (view m) = caps ∧ caps.map (view2 m) = caps) (hp : ∀ x ∈ l, Pure Try.prog g (clA x :: caps) (.bool (p x))) (hl : l.length ≤ 9223372036854775807) :
    Pure Try.prog 60 [.lst 7 (l.map clA), .clo g caps] (.int (if l.any p then (l.findIdx p : Int) else -1)) := by
  (refine Spec.of_body Try.func60 rfl (by rw [Try.ntmps60]; simp) 0 (by simp) ?_; rw [Try.results60, Try.ntmps60]; simp only [entry, zipArgs, Nat.reduceAdd])
  repeat (first | apply Wp.seq | apply Wp.block | (apply Run.next; (simp only [push_cast, seval, hcv, List.map_append] <;> (try simp (disch := omega) only [wI, wU, wC]) <;> exact rfl); (focus ((try simp only [push_cast, seval, hcv, List.map_append]) <;> exact sT))) | ((first | apply Run.nil | apply Wp.skip); dsimp only [sQ, tQ, bQ]) | (apply Wp.run; (dsimp only [List.map] <;> exact rfl); exact rfl) | (apply Wp.exit; dsimp only [sQ, tQ, bQ]; simp only [reduceIte]))
  refine Wp.loop (fun k : Nat => { t := [(0, .lst 7 (l.map clA)), (1, .clo g caps), (7, .int l.length), (8, .int k)], m := [], n := 19 }) (fun k => k ≤ l.length ∧ ∀ j, j < k → p (l.getD j cl0) = false) (fun k => l.length - k) 0 ?_ ?_ ?_
  · (refine Le.of ?_ ?_ rfl rfl <;> (try simp only [push_cast, seval, hcv, List.map_append]) <;> (try (with_reducible rfl)))
  · simp
  · rintro k ⟨hk1, hk2⟩
    repeat (first | apply Wp.seq | apply Wp.block | (apply Run.next; (simp only [push_cast, seval, hcv, List.map_append] <;> (try simp (disch := omega) only [wI, wU, wC]) <;> exact rfl); (focus ((try simp only [push_cast, seval, hcv, List.map_append]) <;> exact sT))) | ((first | apply Run.nil | apply Wp.skip); dsimp only [sQ, tQ, bQ]) | (apply Wp.run; (dsimp only [List.map] <;> exact rfl); exact rfl) | (apply Wp.exit; dsimp only [sQ, tQ, bQ]; simp only [reduceIte]))
    (apply Wp.cond; (simp only [push_cast, seval, hcv, List.map_append] <;> (try simp (disch := omega) only [wI, wU, wC]) <;> exact rfl))
    · (intro hc; try simp only [decide_eq_true_eq, decide_eq_false_iff_not, Bool.and_eq_true, Bool.or_eq_true, Bool.not_eq_true, Bool.not_eq_false, Bool.not_eq_true', Bool.not_eq_false', Bool.and_eq_false_iff, Bool.or_eq_false_iff, Int.not_lt, Int.not_le, Int.ofNat_lt, Int.ofNat_le] at hc)
      have hpk := hp _ (memCl hc)
      have hgd := getD_cl hc
      generalize hx : l.getD k cl0 = x at hpk hgd
      repeat (first | apply Wp.seq | apply Wp.block | (apply Run.next; (simp only [push_cast, seval, hcv, List.map_append, hx, hgd] <;> (try simp (disch := omega) only [wI, wU, wC]) <;> exact rfl); (focus ((try simp only [push_cast, seval, hcv, List.map_append, hx, hgd]) <;> exact sT))) | ((first | apply Run.nil | apply Wp.skip); dsimp only [sQ, tQ, bQ]) | (apply Wp.run; (dsimp only [List.map] <;> exact rfl); exact rfl) | (apply Wp.exit; dsimp only [sQ, tQ, bQ]; simp only [reduceIte]))
      (apply Run.pureP; (simp only [push_cast, seval, hcv, List.map_append, hx, hgd] <;> (try simp (disch := omega) only [wI, wU, wC]) <;> exact rfl); (exact hg); (exact hpk); (focus (simp only [push_cast, seval, hcv, List.map_append, hx, hgd] <;> first | trivial | assumption | (refine ⟨?_, ?_⟩ <;> assumption) | (simp; done))); (try dsimp only [putA, optG]))
      repeat (first | apply Wp.seq | apply Wp.block | (apply Run.next; (simp only [push_cast, seval, hcv, List.map_append, hx, hgd] <;> (try simp (disch := omega) only [wI, wU, wC]) <;> exact rfl); (focus ((try simp only [push_cast, seval, hcv, List.map_append, hx, hgd]) <;> exact sT))) | ((first | apply Run.nil | apply Wp.skip); dsimp only [sQ, tQ, bQ]) | (apply Wp.run; (dsimp only [List.map] <;> exact rfl); exact rfl) | (apply Wp.exit; dsimp only [sQ, tQ, bQ]; simp only [reduceIte]))
      (apply Wp.cond; (simp only [push_cast, seval, hcv, List.map_append, hx, hgd] <;> (try simp (disch := omega) only [wI, wU, wC]) <;> exact rfl))
      · intro h2
        rw [← hx] at h2
        obtain ⟨e1, e2⟩ := findCl hc hk2 h2
        repeat (first | apply Wp.seq | apply Wp.block | (apply Run.next; (simp only [push_cast, seval, hcv, List.map_append, hx, hgd] <;> (try simp (disch := omega) only [wI, wU, wC]) <;> exact rfl); (focus ((try simp only [push_cast, seval, hcv, List.map_append, hx, hgd]) <;> exact sT))) | ((first | apply Run.nil | apply Wp.skip); dsimp only [sQ, tQ, bQ]) | (apply Wp.run; (dsimp only [List.map] <;> exact rfl); exact rfl) | (apply Wp.exit; dsimp only [sQ, tQ, bQ]; simp only [reduceIte]))
        (apply Wp.ret; (try dsimp only [sQ, tQ, bQ]); apply leave0; exact rfl; (simp only [push_cast, seval, hcv, List.map_append, hx, hgd] <;> (try simp (disch := omega) only [wI, wU, wC]) <;> exact rfl); all_goals (try simp only [push_cast, seval, hcv, List.map_append, hx, hgd]); (try rfl))
        rw [e1, e2]; rfl
      · intro h2
        repeat (first | apply Wp.seq | apply Wp.block | (apply Run.next; (simp only [push_cast, seval, hcv, List.map_append, hx, hgd] <;> (try simp (disch := omega) only [wI, wU, wC]) <;> exact rfl); (focus ((try simp only [push_cast, seval, hcv, List.map_append, hx, hgd]) <;> exact sT))) | ((first | apply Run.nil | apply Wp.skip); dsimp only [sQ, tQ, bQ]) | (apply Wp.run; (dsimp only [List.map] <;> exact rfl); exact rfl) | (apply Wp.exit; dsimp only [sQ, tQ, bQ]; simp only [reduceIte]))
        refine ⟨k + 1, ?_, ⟨by omega, fun j hj => ?_⟩, by omega⟩
        · (refine Le.of ?_ ?_ rfl rfl <;> (try simp only [push_cast, seval, hcv, List.map_append, hx, hgd]) <;> (try (with_reducible rfl)))
        · by_cases hjk : j = k
          · subst hjk; rw [hx]; exact h2
          · exact hk2 j (by omega)
    · (intro hc; try simp only [decide_eq_true_eq, decide_eq_false_iff_not, Bool.and_eq_true, Bool.or_eq_true, Bool.not_eq_true, Bool.not_eq_false, Bool.not_eq_true', Bool.not_eq_false', Bool.and_eq_false_iff, Bool.or_eq_false_iff, Int.not_lt, Int.not_le, Int.ofNat_lt, Int.ofNat_le] at hc)
      repeat (first | apply Wp.seq | apply Wp.block | (apply Run.next; (simp only [push_cast, seval, hcv, List.map_append] <;> (try simp (disch := omega) only [wI, wU, wC]) <;> exact rfl); (focus ((try simp only [push_cast, seval, hcv, List.map_append]) <;> exact sT))) | ((first | apply Run.nil | apply Wp.skip); dsimp only [sQ, tQ, bQ]) | (apply Wp.run; (dsimp only [List.map] <;> exact rfl); exact rfl) | (apply Wp.exit; dsimp only [sQ, tQ, bQ]; simp only [reduceIte]))
      obtain rfl : k = l.length := by omega
      have e1 := anyNoneCl hk2
      (apply Wp.ret; (try dsimp only [sQ, tQ, bQ]); apply leave0; exact rfl; (simp only [push_cast, seval, hcv, List.map_append] <;> (try simp (disch := omega) only [wI, wU, wC]) <;> exact rfl); all_goals (try simp only [push_cast, seval, hcv, List.map_append]); (try rfl))
      rw [e1]; rfl
theorem containsFuncCl (l : List Cl) (g : FuncId) (caps : List AV) (p : Cl → Bool) (hg : Enters Try.prog g) (hk : okL 0 caps) (hcv : ∀ m, caps.map (view m) = caps ∧ caps.map (view2 m) = caps) (hp : ∀ x ∈ l, Pure Try.prog g (clA x :: caps) (.bool (p x))) (hl : l.length ≤ 9223372036854775807) :
    Pure Try.prog 39 [.lst 7 (l.map clA), .clo g caps] (.bool (l.any p)) := by
  (refine Spec.of_body Try.func39 rfl (by rw [Try.ntmps39]; simp) 0 (by simp) ?_; rw [Try.results39, Try.ntmps39]; simp only [entry, zipArgs, Nat.reduceAdd])
  repeat (first | apply Wp.seq | apply Wp.block | (apply Run.next; (simp only [push_cast, seval, hcv, List.map_append] <;> (try simp (disch := omega) only [wI, wU, wC]) <;> exact rfl); (focus ((try simp only [push_cast, seval, hcv, List.map_append]) <;> exact sT))) | ((first | apply Run.nil | apply Wp.skip); dsimp only [sQ, tQ, bQ]) | (apply Wp.run; (dsimp only [List.map] <;> exact rfl); exact rfl) | (apply Wp.exit; dsimp only [sQ, tQ, bQ]; simp only [reduceIte]))
  (apply Run.pureP; (simp only [push_cast, seval, hcv, List.map_append] <;> (try simp (disch := omega) only [wI, wU, wC]) <;> exact rfl); (exact (Enters.of Try.func60 rfl rfl)); (exact indexFuncCl l g caps p hg hk hcv hp hl); (focus (simp only [push_cast, seval, hcv, List.map_append] <;> first | trivial | assumption | (refine ⟨?_, ?_⟩ <;> assumption) | (simp; done))); (try dsimp only [putA, optG]))
  repeat (first | apply Wp.seq | apply Wp.block | (apply Run.next; (simp only [push_cast, seval, hcv, List.map_append] <;> (try simp (disch := omega) only [wI, wU, wC]) <;> exact rfl); (focus ((try simp only [push_cast, seval, hcv, List.map_append]) <;> exact sT))) | ((first | apply Run.nil | apply Wp.skip); dsimp only [sQ, tQ, bQ]) | (apply Wp.run; (dsimp only [List.map] <;> exact rfl); exact rfl) | (apply Wp.exit; dsimp only [sQ, tQ, bQ]; simp only [reduceIte]))
  (apply Wp.ret; (try dsimp only [sQ, tQ, bQ]); apply leave0; exact rfl; (simp only [push_cast, seval, hcv, List.map_append] <;> (try simp (disch := omega) only [wI, wU, wC]) <;> exact rfl); all_goals (try simp only [push_cast, seval, hcv, List.map_append]); (try rfl))
  split <;> simp_all
theorem checkClues1_pure {w s : Int} {x : Cl} (hw : w ≤ 100) (hs : s ≤ 100) (h : goodC w s x) : Pure Try.prog 40 [clA x, .ref [.int w, .int s] 0] (.bool false) := by
  have hc := clue_good hw hs h
  unfold clA at hc ⊢
  (refine Spec.of_body Try.func40 rfl (by rw [Try.ntmps40]; simp) 0 (by simp) ?_; rw [Try.results40, Try.ntmps40]; simp only [entry, zipArgs, Nat.reduceAdd])
  repeat (first | apply Wp.seq | apply Wp.block | (apply Run.next; (simp only [push_cast, seval] <;> (try simp (disch := omega) only [wI, wU, wC]) <;> exact rfl); (focus ((try simp only [push_cast, seval]) <;> exact sT))) | ((first | apply Run.nil | apply Wp.skip); dsimp only [sQ, tQ, bQ]) | (apply Wp.run; (dsimp only [List.map] <;> exact rfl); exact rfl) | (apply Wp.exit; dsimp only [sQ, tQ, bQ]; simp only [reduceIte]))
  (apply Run.pureP; (simp only [push_cast, seval] <;> (try simp (disch := omega) only [wI, wU, wC]) <;> exact rfl); (exact (Enters.of Try.func41 rfl rfl)); (exact hc); (focus (simp only [push_cast, seval] <;> first | trivial | assumption | (refine ⟨?_, ?_⟩ <;> assumption) | (simp; done))); (try dsimp only [putA, optG]))
  repeat (first | apply Wp.seq | apply Wp.block | (apply Run.next; (simp only [push_cast, seval] <;> (try simp (disch := omega) only [wI, wU, wC]) <;> exact rfl); (focus ((try simp only [push_cast, seval]) <;> exact sT))) | ((first | apply Run.nil | apply Wp.skip); dsimp only [sQ, tQ, bQ]) | (apply Wp.run; (dsimp only [List.map] <;> exact rfl); exact rfl) | (apply Wp.exit; dsimp only [sQ, tQ, bQ]; simp only [reduceIte]))
  (apply Wp.ret; (try dsimp only [sQ, tQ, bQ]); apply leave0; exact rfl; (simp only [push_cast, seval] <;> (try simp (disch := omega) only [wI, wU, wC]) <;> exact rfl); all_goals (try simp only [push_cast, seval]); (try rfl))
theorem checkClues_pure {w s : Int} {l : List Cl} (h1 : 1 ≤ w) (h2 : w ≤ 4) (h3 : 2 ≤ s) (h4 : s ≤ 10) (hl : l.length ≤ 20) (hg : ∀ x ∈ l, goodC w s x) : Pure Try.prog 18 [lkA w s, .lst 7 (l.map clA)] (.int 0) := by
  have hk := lcheck_pure h1 h2 h3 h4
  have hcf := containsFuncCl l 40 [.ref [.int w, .int s] 0] (fun _ => false) (Enters.of Try.func40 rfl rfl) (by simp only [push_cast]) (fun m => ⟨rfl, rfl⟩) (fun x hx => checkClues1_pure (by omega) (by omega) (hg x hx)) (by omega)
  have hf : (l.any fun _ => false) = false := by simp
  rw [hf] at hcf
  have e2 : decide (20 < (l.length : Int)) = false := decide_eq_false (by omega)
  (refine Spec.of_body Try.func18 rfl (by rw [Try.ntmps18]; simp) 0 (by simp) ?_; rw [Try.results18, Try.ntmps18]; simp only [entry, zipArgs, Nat.reduceAdd])
  repeat (first | apply Wp.seq | apply Wp.block)
  (apply Wp.run; (dsimp only [List.map] <;> exact rfl); exact rfl)
  iterate 2 (apply Run.next; (simp only [push_cast, seval, e2] <;> (try simp (disch := omega) only [wI, wU, wC]) <;> exact rfl); (focus ((try simp only [push_cast, seval, e2]) <;> exact sT)))
  (apply Run.nil; dsimp only [sQ, tQ, bQ])
  (apply Wp.freezeP 2; (simp only [push_cast, seval, e2] <;> (try simp (disch := omega) only [wI, wU, wC]) <;> exact rfl); (simp only [push_cast, seval, e2] <;> (try simp (disch := omega) only [wI, wU, wC]) <;> exact rfl); exact rfl; (focus (first | (simp [AV.cells]; done) | (simp only [push_cast, seval, e2]; done))); simp only [AV.cells, List.set_cons_succ, List.set_cons_zero])
  repeat (first | apply Wp.seq | apply Wp.block | (apply Run.next; (simp only [push_cast, seval, e2] <;> (try simp (disch := omega) only [wI, wU, wC]) <;> exact rfl); (focus ((try simp only [push_cast, seval, e2]) <;> exact sT))) | ((first | apply Run.nil | apply Wp.skip); dsimp only [sQ, tQ, bQ]) | (apply Wp.run; (dsimp only [List.map] <;> exact rfl); exact rfl) | (apply Wp.exit; dsimp only [sQ, tQ, bQ]; simp only [reduceIte]))
  (apply Run.pureP; (simp only [push_cast, seval, e2] <;> (try simp (disch := omega) only [wI, wU, wC]) <;> exact rfl); (exact (Enters.of Try.func38 rfl rfl)); (exact hk); (focus (simp only [push_cast, seval, e2] <;> first | trivial | assumption | (refine ⟨?_, ?_⟩ <;> assumption) | (simp; done))); (try dsimp only [putA, optG]))
  repeat (first | apply Wp.seq | apply Wp.block | (apply Run.next; (simp only [push_cast, seval, e2] <;> (try simp (disch := omega) only [wI, wU, wC]) <;> exact rfl); (focus ((try simp only [push_cast, seval, e2]) <;> exact sT))) | ((first | apply Run.nil | apply Wp.skip); dsimp only [sQ, tQ, bQ]) | (apply Wp.run; (dsimp only [List.map] <;> exact rfl); exact rfl) | (apply Wp.exit; dsimp only [sQ, tQ, bQ]; simp only [reduceIte]) | (apply Run.gtrue; (simp only [push_cast, seval, e2] <;> (try simp (disch := omega) only [wI, wU, wC]) <;> exact rfl); (simp only [push_cast, seval, e2] <;> (try simp (disch := omega) only [wI, wU, wC]) <;> exact rfl)) | (apply Run.gfalse (.bool false); (simp only [push_cast, seval, e2] <;> (try simp (disch := omega) only [wI, wU, wC]) <;> exact rfl); dsimp only [S.put, optG]) | (apply Wp.condT; (simp only [push_cast, seval, e2] <;> (try simp (disch := omega) only [wI, wU, wC]) <;> exact rfl)) | (apply Wp.condF; (simp only [push_cast, seval, e2] <;> (try simp (disch := omega) only [wI, wU, wC]) <;> exact rfl)))
  (apply Run.pureP; (simp only [push_cast, seval, e2] <;> (try simp (disch := omega) only [wI, wU, wC]) <;> exact rfl); (exact (Enters.of Try.func39 rfl rfl)); (exact hcf); (focus (simp only [push_cast, seval, e2] <;> first | trivial | assumption | (refine ⟨?_, ?_⟩ <;> assumption) | (simp; done))); (try dsimp only [putA, optG]))
  repeat (first | apply Wp.seq | apply Wp.block | (apply Run.next; (simp only [push_cast, seval, e2] <;> (try simp (disch := omega) only [wI, wU, wC]) <;> exact rfl); (focus ((try simp only [push_cast, seval, e2]) <;> exact sT))) | ((first | apply Run.nil | apply Wp.skip); dsimp only [sQ, tQ, bQ]) | (apply Wp.run; (dsimp only [List.map] <;> exact rfl); exact rfl) | (apply Wp.exit; dsimp only [sQ, tQ, bQ]; simp only [reduceIte]) | (apply Run.gtrue; (simp only [push_cast, seval, e2] <;> (try simp (disch := omega) only [wI, wU, wC]) <;> exact rfl); (simp only [push_cast, seval, e2] <;> (try simp (disch := omega) only [wI, wU, wC]) <;> exact rfl)) | (apply Run.gfalse (.bool false); (simp only [push_cast, seval, e2] <;> (try simp (disch := omega) only [wI, wU, wC]) <;> exact rfl); dsimp only [S.put, optG]) | (apply Wp.condT; (simp only [push_cast, seval, e2] <;> (try simp (disch := omega) only [wI, wU, wC]) <;> exact rfl)) | (apply Wp.condF; (simp only [push_cast, seval, e2] <;> (try simp (disch := omega) only [wI, wU, wC]) <;> exact rfl)))
  (apply Wp.ret; (try dsimp only [sQ, tQ, bQ]); apply leave0; exact rfl; (simp only [push_cast, seval, e2] <;> (try simp (disch := omega) only [wI, wU, wC]) <;> exact rfl); all_goals (try simp only [push_cast, seval, e2]); (try rfl))
end Go.Proofs.Try
set_option maxHeartbeats 8000000
namespace Go.Proofs.Try
open Go.Vg

/-! all codes of a lock, in order; the next one -/
/-- the symbol of the last wheel -/
def dC (s k : Nat) : Int := ((k % s : Nat) : Int)
def digL (s : Nat) : Nat → Nat → List Int
  | 0, _ => []
  | w + 1, k => digL s w (k / s) ++ [dC s k]
theorem digL_len (s : Nat) : ∀ w k, (digL s w k).length = w
  | 0, _ => rfl
  | w + 1, k => by simp [digL, digL_len s w]
theorem digL_zeros {s : Nat} (hs : 0 < s) (p q : Nat) : ∀ j, digL s (p + j) (q * s ^ j) = digL s p q ++ List.replicate j 0
  | 0 => by simp
  | j + 1 => by
    have e : q * s ^ (j + 1) = (q * s ^ j) * s := by rw [Nat.pow_succ, Nat.mul_assoc]
    show digL s (p + j) (q * s ^ (j + 1) / s) ++ [dC s (q * s ^ (j + 1))] = _
    unfold dC
    rw [e, Nat.mul_div_cancel _ hs, Nat.mul_mod_left, digL_zeros hs p q j, List.replicate_succ']
    simp
def codesN (s w : Nat) : List (List Int) := (List.range (s ^ w)).map (digL s w)
def restN (s w k : Nat) : List (List Int) := (List.range' k (s ^ w - k)).map (digL s w)
theorem restN_zero (s w : Nat) : restN s w 0 = codesN s w := by
  unfold restN codesN
  rw [List.range_eq_range', Nat.sub_zero]
theorem restN_step {s w k : Nat} (h : k < s ^ w) : restN s w k = digL s w k :: restN s w (k + 1) := by
  unfold restN
  obtain ⟨d, hd⟩ : ∃ d, s ^ w - k = d + 1 := ⟨s ^ w - k - 1, by omega⟩
  rw [hd, show s ^ w - (k + 1) = d by omega, List.range'_succ, List.map_cons]
theorem restN_end {s w k : Nat} (h : s ^ w ≤ k) : restN s w k = [] := by
  unfold restN
  rw [show s ^ w - k = 0 by omega]; rfl
theorem digL_zero {s : Nat} (hs : 0 < s) (w : Nat) : digL s w 0 = List.replicate w 0 := by
  have := digL_zeros hs 0 0 w
  simpa [digL] using this
theorem digL_bd {s : Nat} (hs : 0 < s) : ∀ (w k : Nat), ∀ x ∈ digL s w k, 0 ≤ x ∧ x < s
  | 0, k, x, h => by simp [digL] at h
  | w + 1, k, x, h => by
    simp only [digL, List.mem_append, List.mem_cons, List.not_mem_nil, or_false] at h
    rcases h with h | rfl
    · exact digL_bd hs w _ x h
    · have := Nat.mod_lt k hs
      unfold dC
      exact ⟨Int.natCast_nonneg _, by exact_mod_cast this⟩
/-- the code while the wheels behind are at 0: p wheels show the digits of q, and k + 1 is (q + 1) times the steps of a wheel -/
def odoL (s p q j : Nat) : List Int := digL s p q ++ List.replicate j 0
theorem odoL_len (s p q j : Nat) : (odoL s p q j).length = p + j := by simp [odoL, digL_len]
theorem odoL_get (s p q j : Nat) : (odoL s (p + 1) q j).getD p 0 = dC s q := by
  have h := digL_len s p (q / s)
  unfold odoL digL
  rw [List.append_assoc, List.getD_eq_getElem?_getD, List.getElem?_append_right (by omega), h]
  simp
theorem odoL_zero (s p q j : Nat) : (odoL s (p + 1) q j).set p 0 = odoL s p (q / s) (j + 1) := by
  have h := digL_len s p (q / s)
  unfold odoL
  rw [digL, List.append_assoc, List.set_append_right _ _ (by omega), h, Nat.sub_self, List.replicate_succ]
  rfl
theorem odoL_inc {s : Nat} (hs : 0 < s) (p q j : Nat) (h : q % s + 1 < s) : (odoL s (p + 1) q j).set p (dC s q + 1) = digL s (p + 1 + j) ((q + 1) * s ^ j) := by
  have h1 := digL_len s p (q / s)
  rw [digL_zeros hs]
  unfold odoL
  rw [digL, List.append_assoc, List.set_append_right _ _ (by omega), h1, Nat.sub_self]
  have e1 : (q + 1) / s = q / s := by
    have := Nat.div_add_mod q s
    have h2 : q + 1 = s * (q / s) + (q % s + 1) := by omega
    rw [h2, Nat.mul_add_div hs, Nat.div_eq_of_lt h]; rfl
  have e2 : (q + 1) % s = q % s + 1 := by
    have := Nat.div_add_mod q s
    have h2 : q + 1 = s * (q / s) + (q % s + 1) := by omega
    rw [h2, Nat.mul_add_mod, Nat.mod_eq_of_lt h]
  unfold dC
  rw [digL, e1]
  unfold dC
  rw [e2]
  simp
/-- a step of the search for the wheel that goes on -/
theorem odo_step {s k q j : Nat} (hs : 0 < s) (hk : k + 1 = (q + 1) * s ^ j) (h : q % s = s - 1) : k + 1 = (q / s + 1) * s ^ (j + 1) := by
  have := Nat.div_add_mod q s
  have h2 : q + 1 = s * (q / s + 1) := by rw [Nat.mul_add]; omega
  rw [hk, h2, Nat.pow_succ, Nat.mul_comm s, Nat.mul_assoc, Nat.mul_comm s]
theorem odo_lt {s p q j : Nat} (hs : 0 < s) (hq : q < s ^ (p + 1)) (h : q % s + 1 < s) : (q + 1) * s ^ j < s ^ (p + 1 + j) := by
  have hne : q + 1 ≠ s ^ (p + 1) := by
    intro e
    have h1 : (q + 1) % s = 0 := by rw [e, Nat.pow_succ, Nat.mul_mod_left]
    have h2 := Nat.div_add_mod q s
    have h3 : q + 1 = s * (q / s) + (q % s + 1) := by omega
    rw [h3, Nat.mul_add_mod, Nat.mod_eq_of_lt h] at h1
    omega
  rw [Nat.pow_add]
  exact Nat.mul_lt_mul_of_pos_right (by omega) (Nat.pow_pos hs)
theorem dC_bd {s : Nat} (hs : 0 < s) (q : Nat) : 0 ≤ dC s q ∧ dC s q < s := by
  have := Nat.mod_lt q hs
  unfold dC
  exact ⟨Int.natCast_nonneg _, by exact_mod_cast this⟩
/-- what is done with each code, until it says no -/
def fldC {σ : Type} (go : σ → List Int → σ × Bool) (s : σ) : List (List Int) → σ × Bool
  | [] => (s, true)
  | x :: l => if (go s x).2 = true then fldC go (go s x).1 l else ((go s x).1, false)
theorem codes_mem {s w k : Nat} (h : k < s ^ w) : digL s w k ∈ codesN s w := List.mem_map.2 ⟨k, List.mem_range.2 h, rfl⟩
theorem codes_bd {s w : Nat} (hs : 0 < s) {c : List Int} (h : c ∈ codesN s w) : c.length = w ∧ ∀ x ∈ c, 0 ≤ x ∧ x < s := by
  obtain ⟨k, _, rfl⟩ := List.mem_map.1 h
  exact ⟨digL_len s w k, digL_bd hs w k⟩
end Go.Proofs.Try
set_option maxHeartbeats 8000000
namespace Go.Proofs.Try
open Go.Vg

/-! whether clues hold for a code -/
def plC (x : Cl) (c : List Int) : Bool := if x.kind = 1 then decide (c.getD x.a.toNat 0 = x.n) else decide (c.getD x.a.toNat 0 = c.getD x.b.toNat 0)
def hoC (x : Cl) (c : List Int) : Bool := !decide (plC x c = x.no)
theorem plain_at {a n : Int} {no : Bool} {c : List Int} (h1 : 0 ≤ a) (h2 : a < c.length) : Pure Try.prog 76 [clA ⟨1, a, 0, n, 0, no⟩, .ints c] (.bool (decide (c.getD a.toNat 0 = n))) := by
  (refine Spec.of_body Try.func76 rfl (by rw [Try.ntmps76]; simp) 0 (by simp) ?_; rw [Try.results76, Try.ntmps76]; simp only [entry, zipArgs, Nat.reduceAdd])
  repeat (first | apply Wp.seq | apply Wp.block | (apply Run.next; (simp only [push_cast, seval] <;> (try simp (disch := omega) only [wI, wU, wC]) <;> exact rfl); (focus ((try simp only [push_cast, seval]) <;> exact sT))) | ((first | apply Run.nil | apply Wp.skip); dsimp only [sQ, tQ, bQ]) | (apply Wp.run; (dsimp only [List.map] <;> exact rfl); exact rfl) | (apply Wp.exit; dsimp only [sQ, tQ, bQ]; simp only [reduceIte]) | (apply Run.gtrue; (simp only [push_cast, seval] <;> (try simp (disch := omega) only [wI, wU, wC]) <;> exact rfl); (simp only [push_cast, seval] <;> (try simp (disch := omega) only [wI, wU, wC]) <;> exact rfl)) | (apply Run.gfalse (.bool false); (simp only [push_cast, seval] <;> (try simp (disch := omega) only [wI, wU, wC]) <;> exact rfl); dsimp only [S.put, optG]) | (apply Wp.condT; (simp only [push_cast, seval] <;> (try simp (disch := omega) only [wI, wU, wC]) <;> exact rfl)) | (apply Wp.condF; (simp only [push_cast, seval] <;> (try simp (disch := omega) only [wI, wU, wC]) <;> exact rfl)))
  (apply Wp.runD 9 mixed; (dsimp only [List.map] <;> exact rfl); exact rfl; kernel_rfl; (dsimp only [List.take] <;> exact rfl); (dsimp only [List.drop] <;> exact rfl); (((repeat (apply Abn.next; (simp only [push_cast, seval] <;> (try simp (disch := omega) only [wI, wU, wC]) <;> exact rfl); (focus ((try simp only [push_cast, seval]) <;> exact sT))))); exact Abn.nil))
  repeat (first | apply Wp.seq | apply Wp.block | (apply Run.next; (simp only [push_cast, seval] <;> (try simp (disch := omega) only [wI, wU, wC]) <;> exact rfl); (focus ((try simp only [push_cast, seval]) <;> exact sT))) | ((first | apply Run.nil | apply Wp.skip); dsimp only [sQ, tQ, bQ]) | (apply Wp.run; (dsimp only [List.map] <;> exact rfl); exact rfl) | (apply Wp.exit; dsimp only [sQ, tQ, bQ]; simp only [reduceIte]) | (apply Run.gtrue; (simp only [push_cast, seval] <;> (try simp (disch := omega) only [wI, wU, wC]) <;> exact rfl); (simp only [push_cast, seval] <;> (try simp (disch := omega) only [wI, wU, wC]) <;> exact rfl)) | (apply Run.gfalse (.bool false); (simp only [push_cast, seval] <;> (try simp (disch := omega) only [wI, wU, wC]) <;> exact rfl); dsimp only [S.put, optG]) | (apply Wp.condT; (simp only [push_cast, seval] <;> (try simp (disch := omega) only [wI, wU, wC]) <;> exact rfl)) | (apply Wp.condF; (simp only [push_cast, seval] <;> (try simp (disch := omega) only [wI, wU, wC]) <;> exact rfl)))
  (apply Wp.ret; (try dsimp only [sQ, tQ, bQ]); apply leave0; exact rfl; (simp only [push_cast, seval] <;> (try simp (disch := omega) only [wI, wU, wC]) <;> exact rfl); all_goals (try simp only [push_cast, seval]); (try rfl))
theorem plain_same {a b : Int} {no : Bool} {c : List Int} (h1 : 0 ≤ a) (h2 : a < c.length) (h3 : 0 ≤ b) (h4 : b < c.length) : Pure Try.prog 76 [clA ⟨4, a, b, 0, 0, no⟩, .ints c] (.bool (decide (c.getD a.toNat 0 = c.getD b.toNat 0))) := by
  (refine Spec.of_body Try.func76 rfl (by rw [Try.ntmps76]; simp) 0 (by simp) ?_; rw [Try.results76, Try.ntmps76]; simp only [entry, zipArgs, Nat.reduceAdd])
  repeat (first | apply Wp.seq | apply Wp.block | (apply Run.next; (simp only [push_cast, seval] <;> (try simp (disch := omega) only [wI, wU, wC]) <;> exact rfl); (focus ((try simp only [push_cast, seval]) <;> exact sT))) | ((first | apply Run.nil | apply Wp.skip); dsimp only [sQ, tQ, bQ]) | (apply Wp.run; (dsimp only [List.map] <;> exact rfl); exact rfl) | (apply Wp.exit; dsimp only [sQ, tQ, bQ]; simp only [reduceIte]) | (apply Run.gtrue; (simp only [push_cast, seval] <;> (try simp (disch := omega) only [wI, wU, wC]) <;> exact rfl); (simp only [push_cast, seval] <;> (try simp (disch := omega) only [wI, wU, wC]) <;> exact rfl)) | (apply Run.gfalse (.bool false); (simp only [push_cast, seval] <;> (try simp (disch := omega) only [wI, wU, wC]) <;> exact rfl); dsimp only [S.put, optG]) | (apply Wp.condT; (simp only [push_cast, seval] <;> (try simp (disch := omega) only [wI, wU, wC]) <;> exact rfl)) | (apply Wp.condF; (simp only [push_cast, seval] <;> (try simp (disch := omega) only [wI, wU, wC]) <;> exact rfl)))
  (apply Wp.runD 12 mixed; (dsimp only [List.map] <;> exact rfl); exact rfl; kernel_rfl; (dsimp only [List.take] <;> exact rfl); (dsimp only [List.drop] <;> exact rfl); (((repeat (apply Abn.next; (simp only [push_cast, seval] <;> (try simp (disch := omega) only [wI, wU, wC]) <;> exact rfl); (focus ((try simp only [push_cast, seval]) <;> exact sT))))); exact Abn.nil))
  repeat (first | apply Wp.seq | apply Wp.block | (apply Run.next; (simp only [push_cast, seval] <;> (try simp (disch := omega) only [wI, wU, wC]) <;> exact rfl); (focus ((try simp only [push_cast, seval]) <;> exact sT))) | ((first | apply Run.nil | apply Wp.skip); dsimp only [sQ, tQ, bQ]) | (apply Wp.run; (dsimp only [List.map] <;> exact rfl); exact rfl) | (apply Wp.exit; dsimp only [sQ, tQ, bQ]; simp only [reduceIte]) | (apply Run.gtrue; (simp only [push_cast, seval] <;> (try simp (disch := omega) only [wI, wU, wC]) <;> exact rfl); (simp only [push_cast, seval] <;> (try simp (disch := omega) only [wI, wU, wC]) <;> exact rfl)) | (apply Run.gfalse (.bool false); (simp only [push_cast, seval] <;> (try simp (disch := omega) only [wI, wU, wC]) <;> exact rfl); dsimp only [S.put, optG]) | (apply Wp.condT; (simp only [push_cast, seval] <;> (try simp (disch := omega) only [wI, wU, wC]) <;> exact rfl)) | (apply Wp.condF; (simp only [push_cast, seval] <;> (try simp (disch := omega) only [wI, wU, wC]) <;> exact rfl)))
  (apply Wp.ret; (try dsimp only [sQ, tQ, bQ]); apply leave0; exact rfl; (simp only [push_cast, seval] <;> (try simp (disch := omega) only [wI, wU, wC]) <;> exact rfl); all_goals (try simp only [push_cast, seval]); (try rfl))
theorem plain_pure {w s : Int} {x : Cl} {c : List Int} (h : goodC w s x) (hc : (c.length : Int) = w) : Pure Try.prog 76 [clA x, .ints c] (.bool (plC x c)) := by
  obtain ⟨k, a, b, n, m, no⟩ := x
  rcases h with ⟨rfl, h1, h2, h3, h4, rfl, rfl⟩ | ⟨rfl, h1, h2, h3, h4, h5, rfl, rfl⟩
  · dsimp only at h1 h2
    exact plain_at h1 (by omega)
  · dsimp only at h1 h2 h3 h4
    exact plain_same h1 (by omega) h3 (by omega)
theorem choldsP_pure {w s : Int} {x : Cl} {c : List Int} (h : goodC w s x) (hc : (c.length : Int) = w) : Pure Try.prog 66 [clA x, .ints c] (.bool (hoC x c)) := by
  have hp := plain_pure h hc
  unfold hoC
  generalize plC x c = b at hp
  unfold clA at hp ⊢
  (refine Spec.of_body Try.func66 rfl (by rw [Try.ntmps66]; simp) 0 (by simp) ?_; rw [Try.results66, Try.ntmps66]; simp only [entry, zipArgs, Nat.reduceAdd])
  repeat (first | apply Wp.seq | apply Wp.block | (apply Run.next; (simp only [push_cast, seval] <;> (try simp (disch := omega) only [wI, wU, wC]) <;> exact rfl); (focus ((try simp only [push_cast, seval]) <;> exact sT))) | ((first | apply Run.nil | apply Wp.skip); dsimp only [sQ, tQ, bQ]) | (apply Wp.run; (dsimp only [List.map] <;> exact rfl); exact rfl) | (apply Wp.exit; dsimp only [sQ, tQ, bQ]; simp only [reduceIte]))
  (apply Wp.runD 7 mixed; (dsimp only [List.map] <;> exact rfl); exact rfl; kernel_rfl; (dsimp only [List.take] <;> exact rfl); (dsimp only [List.drop] <;> exact rfl); (((repeat (apply Abn.next; (simp only [push_cast, seval] <;> (try simp (disch := omega) only [wI, wU, wC]) <;> exact rfl); (focus ((try simp only [push_cast, seval]) <;> exact sT)))); (apply Abn.pureP; (simp only [push_cast, seval] <;> (try simp (disch := omega) only [wI, wU, wC]) <;> exact rfl); (exact (Enters.of Try.func76 rfl rfl)); (exact hp); (focus (simp only [push_cast, seval] <;> first | trivial | assumption | (refine ⟨?_, ?_⟩ <;> assumption) | (simp; done))); (try dsimp only [putA, optG])); (repeat (apply Abn.next; (simp only [push_cast, seval] <;> (try simp (disch := omega) only [wI, wU, wC]) <;> exact rfl); (focus ((try simp only [push_cast, seval]) <;> exact sT))))); exact Abn.nil))
  repeat (first | apply Wp.seq | apply Wp.block | (apply Run.next; (simp only [push_cast, seval] <;> (try simp (disch := omega) only [wI, wU, wC]) <;> exact rfl); (focus ((try simp only [push_cast, seval]) <;> exact sT))) | ((first | apply Run.nil | apply Wp.skip); dsimp only [sQ, tQ, bQ]) | (apply Wp.run; (dsimp only [List.map] <;> exact rfl); exact rfl) | (apply Wp.exit; dsimp only [sQ, tQ, bQ]; simp only [reduceIte]))
  (apply Wp.ret; (try dsimp only [sQ, tQ, bQ]); apply leave0; exact rfl; (simp only [push_cast, seval] <;> (try simp (disch := omega) only [wI, wU, wC]) <;> exact rfl); all_goals (try simp only [push_cast, seval]); (try rfl))
theorem fails1_pure {w s : Int} {x : Cl} {c : List Int} (h : goodC w s x) (hc : (c.length : Int) = w) : Pure Try.prog 65 [clA x, .ref [.ints c] 0] (.bool (!hoC x c)) := by
  have hp := choldsP_pure h hc
  generalize hoC x c = b at hp
  unfold clA at hp ⊢
  (refine Spec.of_body Try.func65 rfl (by rw [Try.ntmps65]; simp) 0 (by simp) ?_; rw [Try.results65, Try.ntmps65]; simp only [entry, zipArgs, Nat.reduceAdd])
  repeat (first | apply Wp.seq | apply Wp.block | (apply Run.next; (simp only [push_cast, seval] <;> (try simp (disch := omega) only [wI, wU, wC]) <;> exact rfl); (focus ((try simp only [push_cast, seval]) <;> exact sT))) | ((first | apply Run.nil | apply Wp.skip); dsimp only [sQ, tQ, bQ]) | (apply Wp.run; (dsimp only [List.map] <;> exact rfl); exact rfl) | (apply Wp.exit; dsimp only [sQ, tQ, bQ]; simp only [reduceIte]))
  (apply Run.pureP; (simp only [push_cast, seval] <;> (try simp (disch := omega) only [wI, wU, wC]) <;> exact rfl); (exact (Enters.of Try.func66 rfl rfl)); (exact hp); (focus (simp only [push_cast, seval] <;> first | trivial | assumption | (refine ⟨?_, ?_⟩ <;> assumption) | (simp; done))); (try dsimp only [putA, optG]))
  repeat (first | apply Wp.seq | apply Wp.block | (apply Run.next; (simp only [push_cast, seval] <;> (try simp (disch := omega) only [wI, wU, wC]) <;> exact rfl); (focus ((try simp only [push_cast, seval]) <;> exact sT))) | ((first | apply Run.nil | apply Wp.skip); dsimp only [sQ, tQ, bQ]) | (apply Wp.run; (dsimp only [List.map] <;> exact rfl); exact rfl) | (apply Wp.exit; dsimp only [sQ, tQ, bQ]; simp only [reduceIte]))
  (apply Wp.ret; (try dsimp only [sQ, tQ, bQ]); apply leave0; exact rfl; (simp only [push_cast, seval] <;> (try simp (disch := omega) only [wI, wU, wC]) <;> exact rfl); all_goals (try simp only [push_cast, seval]); (try rfl))
def failC (l : List Cl) (c : List Int) : Int := if (l.any fun x => !hoC x c) = true then ((l.findIdx fun x => !hoC x c : Nat) : Int) else -1
theorem failC_neg (l : List Cl) (c : List Int) : decide (failC l c < 0) = l.all fun x => hoC x c := by
  unfold failC
  have e : (l.any fun x => !hoC x c) = !(l.all fun x => hoC x c) := by
    induction l with
    | nil => rfl
    | cons x l ih => simp only [List.any_cons, List.all_cons, ih, Bool.not_and]
  rw [e]
  cases l.all fun x => hoC x c with
  | true => rfl
  | false => simp only [Bool.not_false, if_true, decide_eq_false_iff_not]; omega
theorem fails_pure {w s : Int} {l : List Cl} {c : List Int} (h : ∀ x ∈ l, goodC w s x) (hc : (c.length : Int) = w) (hl : l.length ≤ 20) : Pure Try.prog 44 [.lst 7 (l.map clA), .ints c] (.int (failC l c)) := by
  have hcf := indexFuncCl l 65 [.ref [.ints c] 0] (fun x => !hoC x c) (Enters.of Try.func65 rfl rfl) (by simp only [push_cast]) (fun m => ⟨rfl, rfl⟩) (fun x hx => fails1_pure (h x hx) hc) (by omega)
  unfold failC
  (refine Spec.of_body Try.func44 rfl (by rw [Try.ntmps44]; simp) 0 (by simp) ?_; rw [Try.results44, Try.ntmps44]; simp only [entry, zipArgs, Nat.reduceAdd])
  repeat (first | apply Wp.seq | apply Wp.block)
  (apply Wp.run; (dsimp only [List.map] <;> exact rfl); exact rfl)
  iterate 2 (apply Run.next; (simp only [push_cast, seval] <;> (try simp (disch := omega) only [wI, wU, wC]) <;> exact rfl); (focus ((try simp only [push_cast, seval]) <;> exact sT)))
  (apply Run.nil; dsimp only [sQ, tQ, bQ])
  (apply Wp.freezeP 3; (simp only [push_cast, seval] <;> (try simp (disch := omega) only [wI, wU, wC]) <;> exact rfl); (simp only [push_cast, seval] <;> (try simp (disch := omega) only [wI, wU, wC]) <;> exact rfl); exact rfl; (focus (first | (simp [AV.cells]; done) | (simp only [push_cast, seval]; done))); simp only [AV.cells, List.set_cons_succ, List.set_cons_zero])
  repeat (first | apply Wp.seq | apply Wp.block | (apply Run.next; (simp only [push_cast, seval] <;> (try simp (disch := omega) only [wI, wU, wC]) <;> exact rfl); (focus ((try simp only [push_cast, seval]) <;> exact sT))) | ((first | apply Run.nil | apply Wp.skip); dsimp only [sQ, tQ, bQ]) | (apply Wp.run; (dsimp only [List.map] <;> exact rfl); exact rfl) | (apply Wp.exit; dsimp only [sQ, tQ, bQ]; simp only [reduceIte]))
  (apply Run.pureP; (simp only [push_cast, seval] <;> (try simp (disch := omega) only [wI, wU, wC]) <;> exact rfl); (exact (Enters.of Try.func60 rfl rfl)); (exact hcf); (focus (simp only [push_cast, seval] <;> first | trivial | assumption | (refine ⟨?_, ?_⟩ <;> assumption) | (simp; done))); (try dsimp only [putA, optG]))
  repeat (first | apply Wp.seq | apply Wp.block | (apply Run.next; (simp only [push_cast, seval] <;> (try simp (disch := omega) only [wI, wU, wC]) <;> exact rfl); (focus ((try simp only [push_cast, seval]) <;> exact sT))) | ((first | apply Run.nil | apply Wp.skip); dsimp only [sQ, tQ, bQ]) | (apply Wp.run; (dsimp only [List.map] <;> exact rfl); exact rfl) | (apply Wp.exit; dsimp only [sQ, tQ, bQ]; simp only [reduceIte]))
  (apply Wp.ret; (try dsimp only [sQ, tQ, bQ]); apply leave0; exact rfl; (simp only [push_cast, seval] <;> (try simp (disch := omega) only [wI, wU, wC]) <;> exact rfl); all_goals (try simp only [push_cast, seval]); (try rfl))
end Go.Proofs.Try
set_option maxHeartbeats 8000000
set_option maxRecDepth 20000
namespace Go.Proofs.Try
open Go.Vg

/-! the iterator of the codes -/
theorem codes_spec (w s : Int) : Go.Vg.Spec Try.prog 43 [lkA w s] [] fun x m' => x = .clo 64 [.optr 0 0 0 0] ∧ m' = [⟨0, .row 2 [lkA w s]⟩] := by
  (refine Spec.of_body Try.func43 rfl (by rw [Try.ntmps43]; simp) 1 (by simp) ?_; rw [Try.results43, Try.ntmps43]; simp only [entry, zipArgs, Nat.reduceAdd])
  repeat (first | apply Wp.seq | apply Wp.block | (apply Run.next; (simp only [push_cast, seval] <;> (try simp (disch := omega) only [wI, wU, wC]) <;> exact rfl); (focus ((try simp only [push_cast, seval]) <;> exact sT))) | ((first | apply Run.nil | apply Wp.skip); dsimp only [sQ, tQ, bQ]) | (apply Wp.run; (dsimp only [List.map] <;> exact rfl); exact rfl) | (apply Wp.exit; dsimp only [sQ, tQ, bQ]; simp only [reduceIte]))
  (apply Wp.ret; (try dsimp only [sQ, tQ, bQ]); apply leaveK; exact rfl; (simp only [push_cast, seval] <;> (try simp (disch := omega) only [wI, wU, wC]) <;> exact rfl); (focus (first | (simp only [push_cast, seval]; done) | trivial | (simp only [push_cast, seval]; trivial) | (simp; done))); (focus (first | (simp only [push_cast, seval]; done) | trivial | (simp only [push_cast, seval]; trivial) | (simp; done))); (focus (first | (simp only [push_cast, seval]; done) | trivial | (simp only [push_cast, seval]; trivial) | (simp; done))); (try simp only [push_cast, seval]))
section
variable {σ : Type} (K : σ → Mem) (go : σ → List Int → σ × Bool) (G : σ → Prop)
theorem codesI_spec {N yid wl w s : Nat} (hK : ∀ st, (K st).length = N) (hKok : ∀ st, ∀ e ∈ K st, e.kind.ok N) (hwl : ∀ st l, (K st ++ l)[wl]? = some ⟨0, .row 2 [lkA w s]⟩) (hw1 : 1 ≤ w) (hw4 : w ≤ 4) (hs2 : 2 ≤ s) (hs10 : s ≤ 10)
    (hG : ∀ st c, G st → c ∈ codesN s w → (go st c).2 = true → G (go st c).1)
    (hY : ∀ st c, G st → c ∈ codesN s w → YSpec Try.prog (.yld yid 0) [.osl N 0 0 w] (K st ++ [⟨0, .row 1 (c.map AV.int)⟩]) fun x m' => x = .bool (go st c).2 ∧ m' = K (go st c).1 ++ [⟨0, .row 1 (c.map AV.int)⟩]) (st0 : σ) (hst : G st0) :
    Go.Vg.Spec Try.prog 64 [.yld yid 0, .optr wl 0 0 0] (K st0) (fun _ m' => m' = K (fldC go st0 (codesN s w)).1) := by
  have hlenK : ∀ (st : σ) (l : Mem), (K st ++ l).length = N + l.length := fun st l => by rw [List.length_append, hK]
  have hs0 : 0 < s := by omega
  have hpw : 0 < s ^ w := Nat.pow_pos hs0
  have hwl0 : ∀ st, (K st)[wl]? = some ⟨0, .row 2 [lkA w s]⟩ := fun st => by have := hwl st []; rwa [List.append_nil] at this
  (refine Spec.of_body Try.func64 rfl (by rw [Try.ntmps64]; simp) N (by rw [hK]; simp) ?_; rw [Try.results64, Try.ntmps64]; simp only [entry, zipArgs, Nat.reduceAdd])
  repeat (first | apply Wp.seq | apply Wp.block | (apply Run.next; (simp only [push_cast, seval, getF (hK st0), getF0 (hK st0), setF (hK st0), setF0 (hK st0), hwl0 st0, hwl st0, hK st0, hlenK, List.append_assoc] <;> (try simp (disch := omega) only [wI, wU, wC]) <;> exact rfl); (focus ((try simp only [push_cast, seval, getF (hK st0), getF0 (hK st0), setF (hK st0), setF0 (hK st0), hwl0 st0, hwl st0, hK st0, hlenK, List.append_assoc]) <;> exact sT))) | ((first | apply Run.nil | apply Wp.skip); dsimp only [sQ, tQ, bQ]) | (apply Wp.run; (dsimp only [List.map] <;> exact rfl); exact rfl) | (apply Wp.exit; dsimp only [sQ, tQ, bQ]; simp only [reduceIte]))
  refine Wp.loop (fun (q : σ × Nat) => { t := [(0, .yld yid 0), (1, .optr wl 0 0 0), (3, .osl N 0 0 w)], m := K q.1 ++ [⟨0, .row 1 ((digL s w q.2).map AV.int)⟩], n := 40 }) (fun q => q.2 < s ^ w ∧ G q.1 ∧ (fldC go q.1 (restN s w q.2)).1 = (fldC go st0 (codesN s w)).1) (fun q => s ^ w - q.2) (st0, 0) ?_ ?_ ?_
  · simp only [digL_zero hs0]
    (refine Le.of ?_ ?_ rfl rfl <;> (try simp only [push_cast, seval, getF (hK st0), getF0 (hK st0), setF (hK st0), setF0 (hK st0), hwl0 st0, hwl st0, hK st0, hlenK, List.append_assoc]) <;> (try (with_reducible rfl)))
    all_goals rfl
  · exact ⟨hpw, hst, by rw [restN_zero]⟩
  · rintro ⟨st, k⟩ ⟨hk1, hk2, hk3⟩
    simp only at hk1 hk2 hk3
    have hYs := hY st _ hk2 (codes_mem hk1)
    have hGs := hG st _ hk2 (codes_mem hk1)
    rw [restN_step hk1, fldC] at hk3
    generalize go st (digL s w k) = R at hYs hGs hk3
    repeat (first | apply Wp.seq | apply Wp.block | (apply Run.next; (simp only [push_cast, seval, getF (hK st), getF0 (hK st), setF (hK st), setF0 (hK st), hwl st, hK st, hlenK, List.append_assoc] <;> (try simp (disch := omega) only [wI, wU, wC]) <;> exact rfl); (focus ((try simp only [push_cast, seval, getF (hK st), getF0 (hK st), setF (hK st), setF0 (hK st), hwl st, hK st, hlenK, List.append_assoc]) <;> exact sT))) | ((first | apply Run.nil | apply Wp.skip); dsimp only [sQ, tQ, bQ]) | (apply Wp.run; (dsimp only [List.map] <;> exact rfl); exact rfl) | (apply Wp.exit; dsimp only [sQ, tQ, bQ]; simp only [reduceIte]))
    apply Run.ycall (hc := hYs)
    focus exact rfl
    focus (simp only [push_cast, seval, getF (hK st), getF0 (hK st), setF (hK st), setF0 (hK st), hwl st, hK st, hlenK, List.append_assoc] <;> (try simp (disch := omega) only [wI, wU, wC]) <;> exact rfl)
    focus (simp only [push_cast, seval, getF (hK st), getF0 (hK st), setF (hK st), setF0 (hK st), hwl st, hK st, hlenK, List.append_assoc] <;> (try simp (disch := omega) only [wI, wU, wC]) <;> exact rfl)
    rintro x m' ⟨rfl, rfl⟩
    obtain ⟨st1, b⟩ := R
    cases b with
    | false =>
      rw [if_neg (by simp)] at hk3
      simp only at hk3
      dsimp only [S.put, optG]
      repeat (first | apply Wp.seq | apply Wp.block | (apply Run.next; (simp only [push_cast, seval, getF (hK st1), getF0 (hK st1), setF (hK st1), setF0 (hK st1), hwl st1, hK st1, hlenK, List.append_assoc] <;> (try simp (disch := omega) only [wI, wU, wC]) <;> exact rfl); (focus ((try simp only [push_cast, seval, getF (hK st1), getF0 (hK st1), setF (hK st1), setF0 (hK st1), hwl st1, hK st1, hlenK, List.append_assoc]) <;> exact sT))) | ((first | apply Run.nil | apply Wp.skip); dsimp only [sQ, tQ, bQ]) | (apply Wp.run; (dsimp only [List.map] <;> exact rfl); exact rfl) | (apply Wp.exit; dsimp only [sQ, tQ, bQ]; simp only [reduceIte]) | (apply Run.gtrue; (simp only [push_cast, seval, getF (hK st1), getF0 (hK st1), setF (hK st1), setF0 (hK st1), hwl st1, hK st1, hlenK, List.append_assoc] <;> (try simp (disch := omega) only [wI, wU, wC]) <;> exact rfl); (simp only [push_cast, seval, getF (hK st1), getF0 (hK st1), setF (hK st1), setF0 (hK st1), hwl st1, hK st1, hlenK, List.append_assoc] <;> (try simp (disch := omega) only [wI, wU, wC]) <;> exact rfl)) | (apply Run.gfalse (.bool false); (simp only [push_cast, seval, getF (hK st1), getF0 (hK st1), setF (hK st1), setF0 (hK st1), hwl st1, hK st1, hlenK, List.append_assoc] <;> (try simp (disch := omega) only [wI, wU, wC]) <;> exact rfl); dsimp only [S.put, optG]) | (apply Wp.condT; (simp only [push_cast, seval, getF (hK st1), getF0 (hK st1), setF (hK st1), setF0 (hK st1), hwl st1, hK st1, hlenK, List.append_assoc] <;> (try simp (disch := omega) only [wI, wU, wC]) <;> exact rfl)) | (apply Wp.condF; (simp only [push_cast, seval, getF (hK st1), getF0 (hK st1), setF (hK st1), setF0 (hK st1), hwl st1, hK st1, hlenK, List.append_assoc] <;> (try simp (disch := omega) only [wI, wU, wC]) <;> exact rfl)))
      have htk : ∀ T : Mem, (K st1 ++ T).take N = K st1 := fun T => by rw [List.take_append_of_le_length (by rw [hK]; exact Nat.le_refl _), List.take_of_length_le (by rw [hK]; exact Nat.le_refl _)]
      apply Wp.ret
      (try dsimp only [sQ, tQ, bQ])
      apply leaveK; exact rfl; (simp only [push_cast, seval, getF (hK st1), getF0 (hK st1), setF (hK st1), setF0 (hK st1), hwl st1, hK st1, hlenK, List.append_assoc] <;> (try simp (disch := omega) only [wI, wU, wC]) <;> exact rfl); (focus (first | (simp only [push_cast, seval, getF (hK st1), getF0 (hK st1), setF (hK st1), setF0 (hK st1), hwl st1, hK st1, hlenK, List.append_assoc]; done) | trivial | (simp only [push_cast, seval, getF (hK st1), getF0 (hK st1), setF (hK st1), setF0 (hK st1), hwl st1, hK st1, hlenK, List.append_assoc]; trivial) | (simp; done))); (focus (first | (simp only [push_cast, seval, getF (hK st1), getF0 (hK st1), setF (hK st1), setF0 (hK st1), hwl st1, hK st1, hlenK, List.append_assoc]; done) | trivial | (simp only [push_cast, seval, getF (hK st1), getF0 (hK st1), setF (hK st1), setF0 (hK st1), hwl st1, hK st1, hlenK, List.append_assoc]; trivial) | (simp; done)))
      · simp only [htk]; exact hKok st1
      · simp only [htk]; rw [← hk3]
    | true =>
      rw [if_pos rfl] at hk3
      simp only at hk3 hGs
      have hg1 := hGs trivial
      dsimp only [S.put, optG]
      repeat (first | apply Wp.seq | apply Wp.block | (apply Run.next; (simp only [push_cast, seval, getF (hK st1), getF0 (hK st1), setF (hK st1), setF0 (hK st1), hwl st1, hK st1, hlenK, List.append_assoc] <;> (try simp (disch := omega) only [wI, wU, wC]) <;> exact rfl); (focus ((try simp only [push_cast, seval, getF (hK st1), getF0 (hK st1), setF (hK st1), setF0 (hK st1), hwl st1, hK st1, hlenK, List.append_assoc]) <;> exact sT))) | ((first | apply Run.nil | apply Wp.skip); dsimp only [sQ, tQ, bQ]) | (apply Wp.run; (dsimp only [List.map] <;> exact rfl); exact rfl) | (apply Wp.exit; dsimp only [sQ, tQ, bQ]; simp only [reduceIte]) | (apply Run.gtrue; (simp only [push_cast, seval, getF (hK st1), getF0 (hK st1), setF (hK st1), setF0 (hK st1), hwl st1, hK st1, hlenK, List.append_assoc] <;> (try simp (disch := omega) only [wI, wU, wC]) <;> exact rfl); (simp only [push_cast, seval, getF (hK st1), getF0 (hK st1), setF (hK st1), setF0 (hK st1), hwl st1, hK st1, hlenK, List.append_assoc] <;> (try simp (disch := omega) only [wI, wU, wC]) <;> exact rfl)) | (apply Run.gfalse (.bool false); (simp only [push_cast, seval, getF (hK st1), getF0 (hK st1), setF (hK st1), setF0 (hK st1), hwl st1, hK st1, hlenK, List.append_assoc] <;> (try simp (disch := omega) only [wI, wU, wC]) <;> exact rfl); dsimp only [S.put, optG]) | (apply Wp.condT; (simp only [push_cast, seval, getF (hK st1), getF0 (hK st1), setF (hK st1), setF0 (hK st1), hwl st1, hK st1, hlenK, List.append_assoc] <;> (try simp (disch := omega) only [wI, wU, wC]) <;> exact rfl)) | (apply Wp.condF; (simp only [push_cast, seval, getF (hK st1), getF0 (hK st1), setF (hK st1), setF0 (hK st1), hwl st1, hK st1, hlenK, List.append_assoc] <;> (try simp (disch := omega) only [wI, wU, wC]) <;> exact rfl)))
      refine Wp.loop (fun (q : Nat × Nat × Nat) => { t := [(0, .yld yid 0), (1, .optr wl 0 0 0), (3, .osl N 0 0 w), (4, .int ((q.1 : Int) - 1))], m := K st1 ++ [⟨0, .row 1 ((odoL s q.1 q.2.1 q.2.2).map AV.int)⟩], n := 40 }) (fun q => q.1 + q.2.2 = w ∧ q.2.1 < s ^ q.1 ∧ k + 1 = (q.2.1 + 1) * s ^ q.2.2) (fun q => q.1) (w, k, 0) ?_ ?_ ?_
      · simp only [odoL, List.replicate_zero, List.append_nil]
        (refine Le.of ?_ ?_ rfl rfl <;> (try simp only [push_cast, seval, getF (hK st1), getF0 (hK st1), setF (hK st1), setF0 (hK st1), hwl st1, hK st1, hlenK, List.append_assoc]) <;> (try (with_reducible rfl)))
        all_goals rfl
      · exact ⟨by simp, hk1, by simp⟩
      · rintro ⟨p, qq, j⟩ ⟨h1, h2, h3⟩
        simp only at h1 h2 h3
        have hlo := odoL_len s p qq j
        cases p with
        | zero =>
          have e1 : decide ((0 : Int) ≤ ((0 : Nat) : Int) - 1) = false := rfl
          have e1' : decide ((0 : Int) ≤ (0 : Int) - 1) = false := rfl
          have e1'' : decide ((0 : Int) ≤ -1) = false := rfl
          dsimp only
          repeat (first | apply Wp.seq | apply Wp.block)
          (apply Wp.runD 12 mixed; (dsimp only [List.map] <;> exact rfl); exact rfl; kernel_rfl; (dsimp only [List.take] <;> exact rfl); (dsimp only [List.drop] <;> exact rfl); (((repeat (apply Abn.next; (simp only [push_cast, seval, getF (hK st1), getF0 (hK st1), setF (hK st1), setF0 (hK st1), hwl st1, hK st1, hlenK, List.append_assoc, e1, e1', e1''] <;> (try simp (disch := omega) only [wI, wU, wC]) <;> exact rfl); (focus ((try simp only [push_cast, seval, getF (hK st1), getF0 (hK st1), setF (hK st1), setF0 (hK st1), hwl st1, hK st1, hlenK, List.append_assoc, e1, e1', e1'']) <;> exact sT)))); (repeat (apply Abn.gfalse (.bool false); (intro c e; cases e); (simp only [push_cast, seval, getF (hK st1), getF0 (hK st1), setF (hK st1), setF0 (hK st1), hwl st1, hK st1, hlenK, List.append_assoc, e1, e1', e1''] <;> (try simp (disch := omega) only [wI, wU, wC]) <;> exact rfl); dsimp only [putA])); (repeat (apply Abn.next; (simp only [push_cast, seval, getF (hK st1), getF0 (hK st1), setF (hK st1), setF0 (hK st1), hwl st1, hK st1, hlenK, List.append_assoc, e1, e1', e1''] <;> (try simp (disch := omega) only [wI, wU, wC]) <;> exact rfl); (focus ((try simp only [push_cast, seval, getF (hK st1), getF0 (hK st1), setF (hK st1), setF0 (hK st1), hwl st1, hK st1, hlenK, List.append_assoc, e1, e1', e1'']) <;> exact sT))))); exact Abn.nil))
          repeat (first | apply Wp.seq | apply Wp.block | (apply Run.next; (simp only [push_cast, seval, getF (hK st1), getF0 (hK st1), setF (hK st1), setF0 (hK st1), hwl st1, hK st1, hlenK, List.append_assoc, e1, e1', e1''] <;> (try simp (disch := omega) only [wI, wU, wC]) <;> exact rfl); (focus ((try simp only [push_cast, seval, getF (hK st1), getF0 (hK st1), setF (hK st1), setF0 (hK st1), hwl st1, hK st1, hlenK, List.append_assoc, e1, e1', e1'']) <;> exact sT))) | ((first | apply Run.nil | apply Wp.skip); dsimp only [sQ, tQ, bQ]) | (apply Wp.run; (dsimp only [List.map] <;> exact rfl); exact rfl) | (apply Wp.exit; dsimp only [sQ, tQ, bQ]; simp only [reduceIte]) | (apply Run.gtrue; (simp only [push_cast, seval, getF (hK st1), getF0 (hK st1), setF (hK st1), setF0 (hK st1), hwl st1, hK st1, hlenK, List.append_assoc, e1, e1', e1''] <;> (try simp (disch := omega) only [wI, wU, wC]) <;> exact rfl); (simp only [push_cast, seval, getF (hK st1), getF0 (hK st1), setF (hK st1), setF0 (hK st1), hwl st1, hK st1, hlenK, List.append_assoc, e1, e1', e1''] <;> (try simp (disch := omega) only [wI, wU, wC]) <;> exact rfl)) | (apply Run.gfalse (.bool false); (simp only [push_cast, seval, getF (hK st1), getF0 (hK st1), setF (hK st1), setF0 (hK st1), hwl st1, hK st1, hlenK, List.append_assoc, e1, e1', e1''] <;> (try simp (disch := omega) only [wI, wU, wC]) <;> exact rfl); dsimp only [S.put, optG]) | (apply Wp.condT; (simp only [push_cast, seval, getF (hK st1), getF0 (hK st1), setF (hK st1), setF0 (hK st1), hwl st1, hK st1, hlenK, List.append_assoc, e1, e1', e1''] <;> (try simp (disch := omega) only [wI, wU, wC]) <;> exact rfl)) | (apply Wp.condF; (simp only [push_cast, seval, getF (hK st1), getF0 (hK st1), setF (hK st1), setF0 (hK st1), hwl st1, hK st1, hlenK, List.append_assoc, e1, e1', e1''] <;> (try simp (disch := omega) only [wI, wU, wC]) <;> exact rfl)))
          have htk : ∀ T : Mem, (K st1 ++ T).take N = K st1 := fun T => by rw [List.take_append_of_le_length (by rw [hK]; exact Nat.le_refl _), List.take_of_length_le (by rw [hK]; exact Nat.le_refl _)]
          have hq0 : qq = 0 := by simp at h2; omega
          subst hq0
          have hj : j = w := by omega
          subst hj
          rw [restN_end (by omega)] at hk3
          apply Wp.ret
          (try dsimp only [sQ, tQ, bQ])
          apply leaveK; exact rfl; (simp only [push_cast, seval, getF (hK st1), getF0 (hK st1), setF (hK st1), setF0 (hK st1), hwl st1, hK st1, hlenK, List.append_assoc, e1, e1', e1''] <;> (try simp (disch := omega) only [wI, wU, wC]) <;> exact rfl); (focus (first | (simp only [push_cast, seval, getF (hK st1), getF0 (hK st1), setF (hK st1), setF0 (hK st1), hwl st1, hK st1, hlenK, List.append_assoc, e1, e1', e1'']; done) | trivial | (simp only [push_cast, seval, getF (hK st1), getF0 (hK st1), setF (hK st1), setF0 (hK st1), hwl st1, hK st1, hlenK, List.append_assoc, e1, e1', e1'']; trivial) | (simp; done))); (focus (first | (simp only [push_cast, seval, getF (hK st1), getF0 (hK st1), setF (hK st1), setF0 (hK st1), hwl st1, hK st1, hlenK, List.append_assoc, e1, e1', e1'']; done) | trivial | (simp only [push_cast, seval, getF (hK st1), getF0 (hK st1), setF (hK st1), setF0 (hK st1), hwl st1, hK st1, hlenK, List.append_assoc, e1, e1', e1'']; trivial) | (simp; done)))
          · simp only [htk]; exact hKok st1
          · simp only [htk]; rw [← hk3]; rfl
        | succ p =>
          have e1 : decide ((0 : Int) ≤ (p : Int)) = true := decide_eq_true (by omega)
          have hget := odoL_get s p qq j
          by_cases hq : qq % s = s - 1
          · have e2 : decide (dC s qq = (s : Int) - 1) = true := decide_eq_true (by unfold dC; omega)
            have hset := odoL_zero s p qq j
            dsimp only
            repeat (first | apply Wp.seq | apply Wp.block)
            (apply Wp.runD 12 mixed; (dsimp only [List.map] <;> exact rfl); exact rfl; kernel_rfl; (dsimp only [List.take] <;> exact rfl); (dsimp only [List.drop] <;> exact rfl); (((repeat (apply Abn.next; (simp only [push_cast, seval, getF (hK st1), getF0 (hK st1), setF (hK st1), setF0 (hK st1), hwl st1, hK st1, hlenK, List.append_assoc, e1, e2, hget, hset, hlo, Int.add_sub_cancel] <;> (try simp (disch := omega) only [wI, wU, wC]) <;> exact rfl); (focus ((try simp only [push_cast, seval, getF (hK st1), getF0 (hK st1), setF (hK st1), setF0 (hK st1), hwl st1, hK st1, hlenK, List.append_assoc, e1, e2, hget, hset, hlo, Int.add_sub_cancel]) <;> exact sT)))); (repeat (apply Abn.gtrue; (simp only [push_cast, seval, getF (hK st1), getF0 (hK st1), setF (hK st1), setF0 (hK st1), hwl st1, hK st1, hlenK, List.append_assoc, e1, e2, hget, hset, hlo, Int.add_sub_cancel] <;> (try simp (disch := omega) only [wI, wU, wC]) <;> exact rfl); (simp only [push_cast, seval, getF (hK st1), getF0 (hK st1), setF (hK st1), setF0 (hK st1), hwl st1, hK st1, hlenK, List.append_assoc, e1, e2, hget, hset, hlo, Int.add_sub_cancel] <;> (try simp (disch := omega) only [wI, wU, wC]) <;> exact rfl); (simp only [push_cast, seval, getF (hK st1), getF0 (hK st1), setF (hK st1), setF0 (hK st1), hwl st1, hK st1, hlenK, List.append_assoc, e1, e2, hget, hset, hlo, Int.add_sub_cancel] <;> (try simp (disch := omega) only [wI, wU, wC]) <;> exact rfl); (focus ((try simp only [push_cast, seval, getF (hK st1), getF0 (hK st1), setF (hK st1), setF0 (hK st1), hwl st1, hK st1, hlenK, List.append_assoc, e1, e2, hget, hset, hlo, Int.add_sub_cancel]) <;> exact sT)); dsimp only [putA])); (repeat (apply Abn.next; (simp only [push_cast, seval, getF (hK st1), getF0 (hK st1), setF (hK st1), setF0 (hK st1), hwl st1, hK st1, hlenK, List.append_assoc, e1, e2, hget, hset, hlo, Int.add_sub_cancel] <;> (try simp (disch := omega) only [wI, wU, wC]) <;> exact rfl); (focus ((try simp only [push_cast, seval, getF (hK st1), getF0 (hK st1), setF (hK st1), setF0 (hK st1), hwl st1, hK st1, hlenK, List.append_assoc, e1, e2, hget, hset, hlo, Int.add_sub_cancel]) <;> exact sT))))); exact Abn.nil))
            repeat (first | apply Wp.seq | apply Wp.block | (apply Run.next; (simp only [push_cast, seval, getF (hK st1), getF0 (hK st1), setF (hK st1), setF0 (hK st1), hwl st1, hK st1, hlenK, List.append_assoc, e1, e2, hget, hset, hlo, Int.add_sub_cancel] <;> (try simp (disch := omega) only [wI, wU, wC]) <;> exact rfl); (focus ((try simp only [push_cast, seval, getF (hK st1), getF0 (hK st1), setF (hK st1), setF0 (hK st1), hwl st1, hK st1, hlenK, List.append_assoc, e1, e2, hget, hset, hlo, Int.add_sub_cancel]) <;> exact sT))) | ((first | apply Run.nil | apply Wp.skip); dsimp only [sQ, tQ, bQ]) | (apply Wp.run; (dsimp only [List.map] <;> exact rfl); exact rfl) | (apply Wp.exit; dsimp only [sQ, tQ, bQ]; simp only [reduceIte]) | (apply Run.gtrue; (simp only [push_cast, seval, getF (hK st1), getF0 (hK st1), setF (hK st1), setF0 (hK st1), hwl st1, hK st1, hlenK, List.append_assoc, e1, e2, hget, hset, hlo, Int.add_sub_cancel] <;> (try simp (disch := omega) only [wI, wU, wC]) <;> exact rfl); (simp only [push_cast, seval, getF (hK st1), getF0 (hK st1), setF (hK st1), setF0 (hK st1), hwl st1, hK st1, hlenK, List.append_assoc, e1, e2, hget, hset, hlo, Int.add_sub_cancel] <;> (try simp (disch := omega) only [wI, wU, wC]) <;> exact rfl)) | (apply Run.gfalse (.bool false); (simp only [push_cast, seval, getF (hK st1), getF0 (hK st1), setF (hK st1), setF0 (hK st1), hwl st1, hK st1, hlenK, List.append_assoc, e1, e2, hget, hset, hlo, Int.add_sub_cancel] <;> (try simp (disch := omega) only [wI, wU, wC]) <;> exact rfl); dsimp only [S.put, optG]) | (apply Wp.condT; (simp only [push_cast, seval, getF (hK st1), getF0 (hK st1), setF (hK st1), setF0 (hK st1), hwl st1, hK st1, hlenK, List.append_assoc, e1, e2, hget, hset, hlo, Int.add_sub_cancel] <;> (try simp (disch := omega) only [wI, wU, wC]) <;> exact rfl)) | (apply Wp.condF; (simp only [push_cast, seval, getF (hK st1), getF0 (hK st1), setF (hK st1), setF0 (hK st1), hwl st1, hK st1, hlenK, List.append_assoc, e1, e2, hget, hset, hlo, Int.add_sub_cancel] <;> (try simp (disch := omega) only [wI, wU, wC]) <;> exact rfl)))
            refine ⟨(p, qq / s, j + 1), ?_, ⟨by dsimp only; omega, ?_, odo_step hs0 h3 hq⟩, by dsimp only; omega⟩
            · dsimp only
              (refine Le.of ?_ ?_ rfl rfl <;> (try simp only [push_cast, seval, getF (hK st1), getF0 (hK st1), setF (hK st1), setF0 (hK st1), hwl st1, hK st1, hlenK, List.append_assoc, e1, e2, hget, hset, hlo, Int.add_sub_cancel]) <;> (try (with_reducible rfl)))
              all_goals rfl
            · dsimp only
              rw [Nat.pow_succ, Nat.mul_comm] at h2
              exact Nat.div_lt_of_lt_mul h2
          · have e2 : decide (dC s qq = (s : Int) - 1) = false := decide_eq_false (by unfold dC; omega)
            have hlt := Nat.mod_lt qq hs0
            have hset := odoL_inc hs0 p qq j (by omega)
            rw [← h3, h1] at hset
            have hdb := dC_bd hs0 qq
            have hwr : IntKind.i64.wrap (dC s qq + 1) = dC s qq + 1 := wI (by omega) (by omega)
            have e3 : decide ((p : Int) < 0) = false := decide_eq_false (by omega)
            dsimp only
            repeat (first | apply Wp.seq | apply Wp.block)
            (apply Wp.runD 12 mixed; (dsimp only [List.map] <;> exact rfl); exact rfl; kernel_rfl; (dsimp only [List.take] <;> exact rfl); (dsimp only [List.drop] <;> exact rfl); (((repeat (apply Abn.next; (simp only [push_cast, seval, getF (hK st1), getF0 (hK st1), setF (hK st1), setF0 (hK st1), hwl st1, hK st1, hlenK, List.append_assoc, e1, e2, e3, hwr, hget, hset, hlo, Int.add_sub_cancel] <;> (try simp (disch := omega) only [wI, wU, wC]) <;> exact rfl); (focus ((try simp only [push_cast, seval, getF (hK st1), getF0 (hK st1), setF (hK st1), setF0 (hK st1), hwl st1, hK st1, hlenK, List.append_assoc, e1, e2, e3, hwr, hget, hset, hlo, Int.add_sub_cancel]) <;> exact sT)))); (repeat (apply Abn.gtrue; (simp only [push_cast, seval, getF (hK st1), getF0 (hK st1), setF (hK st1), setF0 (hK st1), hwl st1, hK st1, hlenK, List.append_assoc, e1, e2, e3, hwr, hget, hset, hlo, Int.add_sub_cancel] <;> (try simp (disch := omega) only [wI, wU, wC]) <;> exact rfl); (simp only [push_cast, seval, getF (hK st1), getF0 (hK st1), setF (hK st1), setF0 (hK st1), hwl st1, hK st1, hlenK, List.append_assoc, e1, e2, e3, hwr, hget, hset, hlo, Int.add_sub_cancel] <;> (try simp (disch := omega) only [wI, wU, wC]) <;> exact rfl); (simp only [push_cast, seval, getF (hK st1), getF0 (hK st1), setF (hK st1), setF0 (hK st1), hwl st1, hK st1, hlenK, List.append_assoc, e1, e2, e3, hwr, hget, hset, hlo, Int.add_sub_cancel] <;> (try simp (disch := omega) only [wI, wU, wC]) <;> exact rfl); (focus ((try simp only [push_cast, seval, getF (hK st1), getF0 (hK st1), setF (hK st1), setF0 (hK st1), hwl st1, hK st1, hlenK, List.append_assoc, e1, e2, e3, hwr, hget, hset, hlo, Int.add_sub_cancel]) <;> exact sT)); dsimp only [putA])); (repeat (apply Abn.next; (simp only [push_cast, seval, getF (hK st1), getF0 (hK st1), setF (hK st1), setF0 (hK st1), hwl st1, hK st1, hlenK, List.append_assoc, e1, e2, e3, hwr, hget, hset, hlo, Int.add_sub_cancel] <;> (try simp (disch := omega) only [wI, wU, wC]) <;> exact rfl); (focus ((try simp only [push_cast, seval, getF (hK st1), getF0 (hK st1), setF (hK st1), setF0 (hK st1), hwl st1, hK st1, hlenK, List.append_assoc, e1, e2, e3, hwr, hget, hset, hlo, Int.add_sub_cancel]) <;> exact sT))))); exact Abn.nil))
            repeat (first | apply Wp.seq | apply Wp.block | (apply Run.next; (simp only [push_cast, seval, getF (hK st1), getF0 (hK st1), setF (hK st1), setF0 (hK st1), hwl st1, hK st1, hlenK, List.append_assoc, e1, e2, e3, hwr, hget, hset, hlo, Int.add_sub_cancel] <;> (try simp (disch := omega) only [wI, wU, wC]) <;> exact rfl); (focus ((try simp only [push_cast, seval, getF (hK st1), getF0 (hK st1), setF (hK st1), setF0 (hK st1), hwl st1, hK st1, hlenK, List.append_assoc, e1, e2, e3, hwr, hget, hset, hlo, Int.add_sub_cancel]) <;> exact sT))) | ((first | apply Run.nil | apply Wp.skip); dsimp only [sQ, tQ, bQ]) | (apply Wp.run; (dsimp only [List.map] <;> exact rfl); exact rfl) | (apply Wp.exit; dsimp only [sQ, tQ, bQ]; simp only [reduceIte]) | (apply Run.gtrue; (simp only [push_cast, seval, getF (hK st1), getF0 (hK st1), setF (hK st1), setF0 (hK st1), hwl st1, hK st1, hlenK, List.append_assoc, e1, e2, e3, hwr, hget, hset, hlo, Int.add_sub_cancel] <;> (try simp (disch := omega) only [wI, wU, wC]) <;> exact rfl); (simp only [push_cast, seval, getF (hK st1), getF0 (hK st1), setF (hK st1), setF0 (hK st1), hwl st1, hK st1, hlenK, List.append_assoc, e1, e2, e3, hwr, hget, hset, hlo, Int.add_sub_cancel] <;> (try simp (disch := omega) only [wI, wU, wC]) <;> exact rfl)) | (apply Run.gfalse (.bool false); (simp only [push_cast, seval, getF (hK st1), getF0 (hK st1), setF (hK st1), setF0 (hK st1), hwl st1, hK st1, hlenK, List.append_assoc, e1, e2, e3, hwr, hget, hset, hlo, Int.add_sub_cancel] <;> (try simp (disch := omega) only [wI, wU, wC]) <;> exact rfl); dsimp only [S.put, optG]) | (apply Wp.condT; (simp only [push_cast, seval, getF (hK st1), getF0 (hK st1), setF (hK st1), setF0 (hK st1), hwl st1, hK st1, hlenK, List.append_assoc, e1, e2, e3, hwr, hget, hset, hlo, Int.add_sub_cancel] <;> (try simp (disch := omega) only [wI, wU, wC]) <;> exact rfl)) | (apply Wp.condF; (simp only [push_cast, seval, getF (hK st1), getF0 (hK st1), setF (hK st1), setF0 (hK st1), hwl st1, hK st1, hlenK, List.append_assoc, e1, e2, e3, hwr, hget, hset, hlo, Int.add_sub_cancel] <;> (try simp (disch := omega) only [wI, wU, wC]) <;> exact rfl)))
            refine ⟨(st1, k + 1), ?_, ⟨?_, hg1, hk3⟩, by dsimp only; omega⟩
            · dsimp only
              (refine Le.of ?_ ?_ rfl rfl <;> (try simp only [push_cast, seval, getF (hK st1), getF0 (hK st1), setF (hK st1), setF0 (hK st1), hwl st1, hK st1, hlenK, List.append_assoc, e1, e2, e3, hwr, hget, hset, hlo, Int.add_sub_cancel]) <;> (try (with_reducible rfl)))
              all_goals rfl
            · dsimp only
              rw [h3, ← h1]
              exact odo_lt hs0 h2 (by omega)
end
end Go.Proofs.Try
