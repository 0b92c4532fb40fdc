/- A part of the proof of StoreNearest: contracts of functions, with plain laws that they need. -/
import Derived.Test.YtljchlkmalidnaaVgT
import Derived.Test.YtljchlkmalidnaaVgDm
import Derived.Test.YtljchlkmalidnaaVgFv
set_option linter.all false
set_option maxHeartbeats 8000000
namespace Go.Proofs.Try
open Go.Vg

structure St where
  items : Int
  life : Int
structure Ln where
  kind : Int
  room : Int
  fr : Int
  to : Int
  uses : Int
def stA (x : St) : AV := .agg [.int x.items, .int x.life]
def lnA (x : Ln) : AV := .agg [.int x.kind, .int x.room, .int x.fr, .int x.to, .int x.uses]
abbrev st0 : St := ⟨0, 0⟩
abbrev ln0 : Ln := ⟨0, 0, 0, 0, 0⟩
abbrev storA (ks : List St) (ls : List Ln) : AV := .agg [.lst 2 (ks.map stA), .lst 5 (ls.map lnA)]
theorem getD_st (l : List St) (i : Nat) : (l.map stA).getD i (.agg [.val (.int .i64 0), .val (.int .i64 0)]) = stA (l.getD i st0) := getD_map' stA l i st0
theorem getD_ln (l : List Ln) (i : Nat) : (l.map lnA).getD i (.agg [.val (.int .i64 0), .val (.int .i64 0), .val (.int .i64 0), .val (.int .i64 0), .val (.int .i64 0)]) = lnA (l.getD i ln0) := getD_map' lnA l i ln0
theorem okL_map' {α : Type} {f : α → AV} (k : Nat) (l : List α) (h : ∀ x, (f x).ok k) : okL k (l.map f) := okL_iff.2 fun x hx => by
  obtain ⟨y, _, rfl⟩ := List.mem_map.1 hx
  exact h y
theorem okL_st (k : Nat) (l : List St) : okL k (l.map stA) = True := eq_true (okL_map' k l fun x => by simp [stA, AV.ok, okL])
theorem okL_ln (k : Nat) (l : List Ln) : okL k (l.map lnA) = True := eq_true (okL_map' k l fun x => by simp [lnA, AV.ok, okL])
attribute [push_cast] stA lnA getD_st getD_ln okL_st okL_ln
def wi (n lo hi : Int) : Bool := decide (lo ≤ n) && decide (n ≤ hi)
theorem wi_iff {n lo hi : Int} : wi n lo hi = true ↔ lo ≤ n ∧ n ≤ hi := by simp [wi]
theorem within_pure (n lo hi : Int) : Pure Try.prog 61 [.int n, .int lo, .int hi] (.bool (wi n lo hi)) := by
  (refine Spec.of_body Try.func61 rfl (by rw [Try.ntmps61]; simp) 0 (by simp) ?_; rw [Try.results61, Try.ntmps61]; simp only [entry, zipArgs, Nat.reduceAdd])
  repeat (first | apply Wp.seq | apply Wp.block | (apply Run.next; (simp only [push_cast, seval] <;> (try simp (disch := omega) only [wI, wU, wC]) <;> exact rfl); (focus ((try simp only [push_cast, seval]) <;> exact sT))) | ((first | apply Run.nil | apply Wp.skip); dsimp only [sQ, tQ, bQ]) | (apply Wp.run; (dsimp only [List.map] <;> exact rfl); exact rfl) | (apply Wp.exit; dsimp only [sQ, tQ, bQ]; simp only [reduceIte]))
  (apply Wp.ret; (try dsimp only [sQ, tQ, bQ]); apply leave0; exact rfl; (simp only [push_cast, seval] <;> (try simp (disch := omega) only [wI, wU, wC]) <;> exact rfl); all_goals (try simp only [push_cast, seval]); (try rfl))
theorem rwithin_pure (n lo hi : Int) : Pure Try.prog 52 [.int n, .int lo, .int hi] (.bool (wi n lo hi)) := by
  (refine Spec.of_body Try.func52 rfl (by rw [Try.ntmps52]; simp) 0 (by simp) ?_; rw [Try.results52, Try.ntmps52]; simp only [entry, zipArgs, Nat.reduceAdd])
  repeat (first | apply Wp.seq | apply Wp.block | (apply Run.next; (simp only [push_cast, seval] <;> (try simp (disch := omega) only [wI, wU, wC]) <;> exact rfl); (focus ((try simp only [push_cast, seval]) <;> exact sT))) | ((first | apply Run.nil | apply Wp.skip); dsimp only [sQ, tQ, bQ]) | (apply Wp.run; (dsimp only [List.map] <;> exact rfl); exact rfl) | (apply Wp.exit; dsimp only [sQ, tQ, bQ]; simp only [reduceIte]))
  (apply Wp.ret; (try dsimp only [sQ, tQ, bQ]); apply leave0; exact rfl; (simp only [push_cast, seval] <;> (try simp (disch := omega) only [wI, wU, wC]) <;> exact rfl); all_goals (try simp only [push_cast, seval]); (try rfl))
theorem memSt {l : List St} {k : Nat} (h : k < l.length) : l.getD k st0 ∈ l := by simp [h]
theorem findSt {l : List St} {p : St → Bool} {k : Nat} (hk : k < l.length) (h1 : ∀ j, j < k → p (l.getD j st0) = false) (h2 : p (l.getD k st0) = true) : l.any p = true ∧ l.findIdx p = k := by
  have e : ∀ j (hj : j < l.length), l.getD j st0 = l[j] := fun j hj => by simp [hj]
  refine ⟨List.any_eq_true.2 ⟨l[k], List.getElem_mem hk, by rw [← e k hk]; exact h2⟩, ?_⟩
  rw [List.findIdx_eq hk]
  refine ⟨by rw [← e k hk]; exact h2, fun j hj => ?_⟩
  have := h1 j hj
  rw [e j (by omega)] at this
  exact this
theorem anyNoneSt {l : List St} {p : St → Bool} (h : ∀ j, j < l.length → p (l.getD j st0) = false) : l.any p = false := by
  rw [List.any_eq_false]
  intro x hx
  obtain ⟨i, hi, rfl⟩ := List.getElem_of_mem hx
  have := h i hi
  simp [hi] at this
  simp [this]
theorem indexFuncSt (l : List St) (g : FuncId) (caps : List AV) (p : St → Bool) (hg : Enters Try.prog g) (hk : okL 0 caps) (hcv : ∀ m, caps.map (view m) = caps ∧ caps.map (view2 m) = caps) (hp : ∀ x ∈ l, Pure Try.prog g (stA x :: caps) (.bool (p x))) (hl : l.length ≤ 9223372036854775807) :
    Pure Try.prog 86 [.lst 2 (l.map stA), .clo g caps] (.int (if l.any p then (l.findIdx p : Int) else -1)) := by
  (refine Spec.of_body Try.func86 rfl (by rw [Try.ntmps86]; simp) 0 (by simp) ?_; rw [Try.results86, Try.ntmps86]; simp only [entry, zipArgs, Nat.reduceAdd])
  repeat (first | apply Wp.seq | apply Wp.block | (apply Run.next; (simp only [push_cast, seval, hcv, List.map_append] <;> (try simp (disch := omega) only [wI, wU, wC]) <;> exact rfl); (focus ((try simp only [push_cast, seval, hcv, List.map_append]) <;> exact sT))) | ((first | apply Run.nil | apply Wp.skip); dsimp only [sQ, tQ, bQ]) | (apply Wp.run; (dsimp only [List.map] <;> exact rfl); exact rfl) | (apply Wp.exit; dsimp only [sQ, tQ, bQ]; simp only [reduceIte]))
  refine Wp.loop (fun k : Nat => { t := [(0, .lst 2 (l.map stA)), (1, .clo g caps), (7, .int l.length), (8, .int k)], m := [], n := 19 }) (fun k => k ≤ l.length ∧ ∀ j, j < k → p (l.getD j st0) = false) (fun k => l.length - k) 0 ?_ ?_ ?_
  · (refine Le.of ?_ ?_ rfl rfl <;> (try simp only [push_cast, seval, hcv, List.map_append]) <;> (try (with_reducible rfl)))
  · simp
  · rintro k ⟨hk1, hk2⟩
    repeat (first | apply Wp.seq | apply Wp.block | (apply Run.next; (simp only [push_cast, seval, hcv, List.map_append] <;> (try simp (disch := omega) only [wI, wU, wC]) <;> exact rfl); (focus ((try simp only [push_cast, seval, hcv, List.map_append]) <;> exact sT))) | ((first | apply Run.nil | apply Wp.skip); dsimp only [sQ, tQ, bQ]) | (apply Wp.run; (dsimp only [List.map] <;> exact rfl); exact rfl) | (apply Wp.exit; dsimp only [sQ, tQ, bQ]; simp only [reduceIte]))
    (apply Wp.cond; (simp only [push_cast, seval, hcv, List.map_append] <;> (try simp (disch := omega) only [wI, wU, wC]) <;> exact rfl))
    · (intro hc; try simp only [decide_eq_true_eq, decide_eq_false_iff_not, Bool.and_eq_true, Bool.or_eq_true, Bool.not_eq_true, Bool.not_eq_false, Bool.not_eq_true', Bool.not_eq_false', Bool.and_eq_false_iff, Bool.or_eq_false_iff, Int.not_lt, Int.not_le, Int.ofNat_lt, Int.ofNat_le] at hc)
      have hpk := hp _ (memSt hc)
      generalize hx : l.getD k st0 = x at hpk
      repeat (first | apply Wp.seq | apply Wp.block | (apply Run.next; (simp only [push_cast, seval, hcv, List.map_append, hx] <;> (try simp (disch := omega) only [wI, wU, wC]) <;> exact rfl); (focus ((try simp only [push_cast, seval, hcv, List.map_append, hx]) <;> exact sT))) | ((first | apply Run.nil | apply Wp.skip); dsimp only [sQ, tQ, bQ]) | (apply Wp.run; (dsimp only [List.map] <;> exact rfl); exact rfl) | (apply Wp.exit; dsimp only [sQ, tQ, bQ]; simp only [reduceIte]))
      (apply Run.pureP; (simp only [push_cast, seval, hcv, List.map_append, hx] <;> (try simp (disch := omega) only [wI, wU, wC]) <;> exact rfl); (exact hg); (exact hpk); (focus (simp only [push_cast, seval, hcv, List.map_append, hx] <;> first | trivial | assumption | (refine ⟨?_, ?_⟩ <;> assumption) | (simp; done))); (try dsimp only [putA, optG]))
      repeat (first | apply Wp.seq | apply Wp.block | (apply Run.next; (simp only [push_cast, seval, hcv, List.map_append, hx] <;> (try simp (disch := omega) only [wI, wU, wC]) <;> exact rfl); (focus ((try simp only [push_cast, seval, hcv, List.map_append, hx]) <;> exact sT))) | ((first | apply Run.nil | apply Wp.skip); dsimp only [sQ, tQ, bQ]) | (apply Wp.run; (dsimp only [List.map] <;> exact rfl); exact rfl) | (apply Wp.exit; dsimp only [sQ, tQ, bQ]; simp only [reduceIte]))
      (apply Wp.cond; (simp only [push_cast, seval, hcv, List.map_append, hx] <;> (try simp (disch := omega) only [wI, wU, wC]) <;> exact rfl))
      · intro h2
        rw [← hx] at h2
        obtain ⟨e1, e2⟩ := findSt hc hk2 h2
        repeat (first | apply Wp.seq | apply Wp.block | (apply Run.next; (simp only [push_cast, seval, hcv, List.map_append, hx] <;> (try simp (disch := omega) only [wI, wU, wC]) <;> exact rfl); (focus ((try simp only [push_cast, seval, hcv, List.map_append, hx]) <;> exact sT))) | ((first | apply Run.nil | apply Wp.skip); dsimp only [sQ, tQ, bQ]) | (apply Wp.run; (dsimp only [List.map] <;> exact rfl); exact rfl) | (apply Wp.exit; dsimp only [sQ, tQ, bQ]; simp only [reduceIte]))
        (apply Wp.ret; (try dsimp only [sQ, tQ, bQ]); apply leave0; exact rfl; (simp only [push_cast, seval, hcv, List.map_append, hx] <;> (try simp (disch := omega) only [wI, wU, wC]) <;> exact rfl); all_goals (try simp only [push_cast, seval, hcv, List.map_append, hx]); (try rfl))
        rw [e1, e2]; rfl
      · intro h2
        repeat (first | apply Wp.seq | apply Wp.block | (apply Run.next; (simp only [push_cast, seval, hcv, List.map_append, hx] <;> (try simp (disch := omega) only [wI, wU, wC]) <;> exact rfl); (focus ((try simp only [push_cast, seval, hcv, List.map_append, hx]) <;> exact sT))) | ((first | apply Run.nil | apply Wp.skip); dsimp only [sQ, tQ, bQ]) | (apply Wp.run; (dsimp only [List.map] <;> exact rfl); exact rfl) | (apply Wp.exit; dsimp only [sQ, tQ, bQ]; simp only [reduceIte]))
        refine ⟨k + 1, ?_, ⟨by omega, fun j hj => ?_⟩, by omega⟩
        · (refine Le.of ?_ ?_ rfl rfl <;> (try simp only [push_cast, seval, hcv, List.map_append, hx]) <;> (try (with_reducible rfl)))
        · by_cases hjk : j = k
          · subst hjk; rw [hx]; exact h2
          · exact hk2 j (by omega)
    · (intro hc; try simp only [decide_eq_true_eq, decide_eq_false_iff_not, Bool.and_eq_true, Bool.or_eq_true, Bool.not_eq_true, Bool.not_eq_false, Bool.not_eq_true', Bool.not_eq_false', Bool.and_eq_false_iff, Bool.or_eq_false_iff, Int.not_lt, Int.not_le, Int.ofNat_lt, Int.ofNat_le] at hc)
      repeat (first | apply Wp.seq | apply Wp.block | (apply Run.next; (simp only [push_cast, seval, hcv, List.map_append] <;> (try simp (disch := omega) only [wI, wU, wC]) <;> exact rfl); (focus ((try simp only [push_cast, seval, hcv, List.map_append]) <;> exact sT))) | ((first | apply Run.nil | apply Wp.skip); dsimp only [sQ, tQ, bQ]) | (apply Wp.run; (dsimp only [List.map] <;> exact rfl); exact rfl) | (apply Wp.exit; dsimp only [sQ, tQ, bQ]; simp only [reduceIte]))
      obtain rfl : k = l.length := by omega
      have e1 := anyNoneSt hk2
      (apply Wp.ret; (try dsimp only [sQ, tQ, bQ]); apply leave0; exact rfl; (simp only [push_cast, seval, hcv, List.map_append] <;> (try simp (disch := omega) only [wI, wU, wC]) <;> exact rfl); all_goals (try simp only [push_cast, seval, hcv, List.map_append]); (try rfl))
      rw [e1]; rfl
theorem containsFuncSt (l : List St) (g : FuncId) (caps : List AV) (p : St → Bool) (hg : Enters Try.prog g) (hk : okL 0 caps) (hcv : ∀ m, caps.map (view m) = caps ∧ caps.map (view2 m) = caps) (hp : ∀ x ∈ l, Pure Try.prog g (stA x :: caps) (.bool (p x))) (hl : l.length ≤ 9223372036854775807) :
    Pure Try.prog 65 [.lst 2 (l.map stA), .clo g caps] (.bool (l.any p)) := by
  (refine Spec.of_body Try.func65 rfl (by rw [Try.ntmps65]; simp) 0 (by simp) ?_; rw [Try.results65, Try.ntmps65]; simp only [entry, zipArgs, Nat.reduceAdd])
  repeat (first | apply Wp.seq | apply Wp.block | (apply Run.next; (simp only [push_cast, seval, hcv, List.map_append] <;> (try simp (disch := omega) only [wI, wU, wC]) <;> exact rfl); (focus ((try simp only [push_cast, seval, hcv, List.map_append]) <;> exact sT))) | ((first | apply Run.nil | apply Wp.skip); dsimp only [sQ, tQ, bQ]) | (apply Wp.run; (dsimp only [List.map] <;> exact rfl); exact rfl) | (apply Wp.exit; dsimp only [sQ, tQ, bQ]; simp only [reduceIte]))
  (apply Run.pureP; (simp only [push_cast, seval, hcv, List.map_append] <;> (try simp (disch := omega) only [wI, wU, wC]) <;> exact rfl); (exact (Enters.of Try.func86 rfl rfl)); (exact indexFuncSt l g caps p hg hk hcv hp hl); (focus (simp only [push_cast, seval, hcv, List.map_append] <;> first | trivial | assumption | (refine ⟨?_, ?_⟩ <;> assumption) | (simp; done))); (try dsimp only [putA, optG]))
  repeat (first | apply Wp.seq | apply Wp.block | (apply Run.next; (simp only [push_cast, seval, hcv, List.map_append] <;> (try simp (disch := omega) only [wI, wU, wC]) <;> exact rfl); (focus ((try simp only [push_cast, seval, hcv, List.map_append]) <;> exact sT))) | ((first | apply Run.nil | apply Wp.skip); dsimp only [sQ, tQ, bQ]) | (apply Wp.run; (dsimp only [List.map] <;> exact rfl); exact rfl) | (apply Wp.exit; dsimp only [sQ, tQ, bQ]; simp only [reduceIte]))
  (apply Wp.ret; (try dsimp only [sQ, tQ, bQ]); apply leave0; exact rfl; (simp only [push_cast, seval, hcv, List.map_append] <;> (try simp (disch := omega) only [wI, wU, wC]) <;> exact rfl); all_goals (try simp only [push_cast, seval, hcv, List.map_append]); (try rfl))
  split <;> simp_all
theorem memLn {l : List Ln} {k : Nat} (h : k < l.length) : l.getD k ln0 ∈ l := by simp [h]
theorem memI {l : List Int} {k : Nat} (h : k < l.length) : l.getD k 0 ∈ l := by simp [h]
theorem findI {l : List Int} {p : Int → Bool} {k : Nat} (hk : k < l.length) (h1 : ∀ j, j < k → p (l.getD j 0) = false) (h2 : p (l.getD k 0) = true) : l.any p = true ∧ l.findIdx p = k := by
  have e : ∀ j (hj : j < l.length), l.getD j 0 = l[j] := fun j hj => by simp [hj]
  refine ⟨List.any_eq_true.2 ⟨l[k], List.getElem_mem hk, by rw [← e k hk]; exact h2⟩, ?_⟩
  rw [List.findIdx_eq hk]
  refine ⟨by rw [← e k hk]; exact h2, fun j hj => ?_⟩
  have := h1 j hj
  rw [e j (by omega)] at this
  exact this
theorem anyNoneI {l : List Int} {p : Int → Bool} (h : ∀ j, j < l.length → p (l.getD j 0) = false) : l.any p = false := by
  rw [List.any_eq_false]
  intro x hx
  obtain ⟨i, hi, rfl⟩ := List.getElem_of_mem hx
  have := h i hi
  simp [hi] at this
  simp [this]
theorem indexFuncI (l : List Int) (g : FuncId) (caps : List AV) (p : Int → Bool) (hg : Enters Try.prog g) (hk : okL 0 caps) (hcv : ∀ m, caps.map (view m) = caps ∧ caps.map (view2 m) = caps) (hp : ∀ x ∈ l, Pure Try.prog g (AV.int x :: caps) (.bool (p x))) (hl : l.length ≤ 9223372036854775807) :
    Pure Try.prog 93 [.ints l, .clo g caps] (.int (if l.any p then (l.findIdx p : Int) else -1)) := by
  (refine Spec.of_body Try.func93 rfl (by rw [Try.ntmps93]; simp) 0 (by simp) ?_; rw [Try.results93, Try.ntmps93]; simp only [entry, zipArgs, Nat.reduceAdd])
  repeat (first | apply Wp.seq | apply Wp.block | (apply Run.next; (simp only [push_cast, seval, hcv, List.map_append] <;> (try simp (disch := omega) only [wI, wU, wC]) <;> exact rfl); (focus ((try simp only [push_cast, seval, hcv, List.map_append]) <;> exact sT))) | ((first | apply Run.nil | apply Wp.skip); dsimp only [sQ, tQ, bQ]) | (apply Wp.run; (dsimp only [List.map] <;> exact rfl); exact rfl) | (apply Wp.exit; dsimp only [sQ, tQ, bQ]; simp only [reduceIte]))
  refine Wp.loop (fun k : Nat => { t := [(0, .ints l), (1, .clo g caps), (7, .int l.length), (8, .int k)], m := [], n := 19 }) (fun k => k ≤ l.length ∧ ∀ j, j < k → p (l.getD j 0) = false) (fun k => l.length - k) 0 ?_ ?_ ?_
  · (refine Le.of ?_ ?_ rfl rfl <;> (try simp only [push_cast, seval, hcv, List.map_append]) <;> (try (with_reducible rfl)))
  · simp
  · rintro k ⟨hk1, hk2⟩
    repeat (first | apply Wp.seq | apply Wp.block | (apply Run.next; (simp only [push_cast, seval, hcv, List.map_append] <;> (try simp (disch := omega) only [wI, wU, wC]) <;> exact rfl); (focus ((try simp only [push_cast, seval, hcv, List.map_append]) <;> exact sT))) | ((first | apply Run.nil | apply Wp.skip); dsimp only [sQ, tQ, bQ]) | (apply Wp.run; (dsimp only [List.map] <;> exact rfl); exact rfl) | (apply Wp.exit; dsimp only [sQ, tQ, bQ]; simp only [reduceIte]))
    (apply Wp.cond; (simp only [push_cast, seval, hcv, List.map_append] <;> (try simp (disch := omega) only [wI, wU, wC]) <;> exact rfl))
    · (intro hc; try simp only [decide_eq_true_eq, decide_eq_false_iff_not, Bool.and_eq_true, Bool.or_eq_true, Bool.not_eq_true, Bool.not_eq_false, Bool.not_eq_true', Bool.not_eq_false', Bool.and_eq_false_iff, Bool.or_eq_false_iff, Int.not_lt, Int.not_le, Int.ofNat_lt, Int.ofNat_le] at hc)
      have hpk := hp _ (memI hc)
      generalize hx : l.getD k 0 = x at hpk
      repeat (first | apply Wp.seq | apply Wp.block | (apply Run.next; (simp only [push_cast, seval, hcv, List.map_append, hx] <;> (try simp (disch := omega) only [wI, wU, wC]) <;> exact rfl); (focus ((try simp only [push_cast, seval, hcv, List.map_append, hx]) <;> exact sT))) | ((first | apply Run.nil | apply Wp.skip); dsimp only [sQ, tQ, bQ]) | (apply Wp.run; (dsimp only [List.map] <;> exact rfl); exact rfl) | (apply Wp.exit; dsimp only [sQ, tQ, bQ]; simp only [reduceIte]))
      (apply Run.pureP; (simp only [push_cast, seval, hcv, List.map_append, hx] <;> (try simp (disch := omega) only [wI, wU, wC]) <;> exact rfl); (exact hg); (exact hpk); (focus (simp only [push_cast, seval, hcv, List.map_append, hx] <;> first | trivial | assumption | (refine ⟨?_, ?_⟩ <;> assumption) | (simp; done))); (try dsimp only [putA, optG]))
      repeat (first | apply Wp.seq | apply Wp.block | (apply Run.next; (simp only [push_cast, seval, hcv, List.map_append, hx] <;> (try simp (disch := omega) only [wI, wU, wC]) <;> exact rfl); (focus ((try simp only [push_cast, seval, hcv, List.map_append, hx]) <;> exact sT))) | ((first | apply Run.nil | apply Wp.skip); dsimp only [sQ, tQ, bQ]) | (apply Wp.run; (dsimp only [List.map] <;> exact rfl); exact rfl) | (apply Wp.exit; dsimp only [sQ, tQ, bQ]; simp only [reduceIte]))
      (apply Wp.cond; (simp only [push_cast, seval, hcv, List.map_append, hx] <;> (try simp (disch := omega) only [wI, wU, wC]) <;> exact rfl))
      · intro h2
        rw [← hx] at h2
        obtain ⟨e1, e2⟩ := findI hc hk2 h2
        repeat (first | apply Wp.seq | apply Wp.block | (apply Run.next; (simp only [push_cast, seval, hcv, List.map_append, hx] <;> (try simp (disch := omega) only [wI, wU, wC]) <;> exact rfl); (focus ((try simp only [push_cast, seval, hcv, List.map_append, hx]) <;> exact sT))) | ((first | apply Run.nil | apply Wp.skip); dsimp only [sQ, tQ, bQ]) | (apply Wp.run; (dsimp only [List.map] <;> exact rfl); exact rfl) | (apply Wp.exit; dsimp only [sQ, tQ, bQ]; simp only [reduceIte]))
        (apply Wp.ret; (try dsimp only [sQ, tQ, bQ]); apply leave0; exact rfl; (simp only [push_cast, seval, hcv, List.map_append, hx] <;> (try simp (disch := omega) only [wI, wU, wC]) <;> exact rfl); all_goals (try simp only [push_cast, seval, hcv, List.map_append, hx]); (try rfl))
        rw [e1, e2]; rfl
      · intro h2
        repeat (first | apply Wp.seq | apply Wp.block | (apply Run.next; (simp only [push_cast, seval, hcv, List.map_append, hx] <;> (try simp (disch := omega) only [wI, wU, wC]) <;> exact rfl); (focus ((try simp only [push_cast, seval, hcv, List.map_append, hx]) <;> exact sT))) | ((first | apply Run.nil | apply Wp.skip); dsimp only [sQ, tQ, bQ]) | (apply Wp.run; (dsimp only [List.map] <;> exact rfl); exact rfl) | (apply Wp.exit; dsimp only [sQ, tQ, bQ]; simp only [reduceIte]))
        refine ⟨k + 1, ?_, ⟨by omega, fun j hj => ?_⟩, by omega⟩
        · (refine Le.of ?_ ?_ rfl rfl <;> (try simp only [push_cast, seval, hcv, List.map_append, hx]) <;> (try (with_reducible rfl)))
        · by_cases hjk : j = k
          · subst hjk; rw [hx]; exact h2
          · exact hk2 j (by omega)
    · (intro hc; try simp only [decide_eq_true_eq, decide_eq_false_iff_not, Bool.and_eq_true, Bool.or_eq_true, Bool.not_eq_true, Bool.not_eq_false, Bool.not_eq_true', Bool.not_eq_false', Bool.and_eq_false_iff, Bool.or_eq_false_iff, Int.not_lt, Int.not_le, Int.ofNat_lt, Int.ofNat_le] at hc)
      repeat (first | apply Wp.seq | apply Wp.block | (apply Run.next; (simp only [push_cast, seval, hcv, List.map_append] <;> (try simp (disch := omega) only [wI, wU, wC]) <;> exact rfl); (focus ((try simp only [push_cast, seval, hcv, List.map_append]) <;> exact sT))) | ((first | apply Run.nil | apply Wp.skip); dsimp only [sQ, tQ, bQ]) | (apply Wp.run; (dsimp only [List.map] <;> exact rfl); exact rfl) | (apply Wp.exit; dsimp only [sQ, tQ, bQ]; simp only [reduceIte]))
      obtain rfl : k = l.length := by omega
      have e1 := anyNoneI hk2
      (apply Wp.ret; (try dsimp only [sQ, tQ, bQ]); apply leave0; exact rfl; (simp only [push_cast, seval, hcv, List.map_append] <;> (try simp (disch := omega) only [wI, wU, wC]) <;> exact rfl); all_goals (try simp only [push_cast, seval, hcv, List.map_append]); (try rfl))
      rw [e1]; rfl
theorem containsFuncI (l : List Int) (g : FuncId) (caps : List AV) (p : Int → Bool) (hg : Enters Try.prog g) (hk : okL 0 caps) (hcv : ∀ m, caps.map (view m) = caps ∧ caps.map (view2 m) = caps) (hp : ∀ x ∈ l, Pure Try.prog g (AV.int x :: caps) (.bool (p x))) (hl : l.length ≤ 9223372036854775807) :
    Pure Try.prog 87 [.ints l, .clo g caps] (.bool (l.any p)) := by
  (refine Spec.of_body Try.func87 rfl (by rw [Try.ntmps87]; simp) 0 (by simp) ?_; rw [Try.results87, Try.ntmps87]; simp only [entry, zipArgs, Nat.reduceAdd])
  repeat (first | apply Wp.seq | apply Wp.block | (apply Run.next; (simp only [push_cast, seval, hcv, List.map_append] <;> (try simp (disch := omega) only [wI, wU, wC]) <;> exact rfl); (focus ((try simp only [push_cast, seval, hcv, List.map_append]) <;> exact sT))) | ((first | apply Run.nil | apply Wp.skip); dsimp only [sQ, tQ, bQ]) | (apply Wp.run; (dsimp only [List.map] <;> exact rfl); exact rfl) | (apply Wp.exit; dsimp only [sQ, tQ, bQ]; simp only [reduceIte]))
  (apply Run.pureP; (simp only [push_cast, seval, hcv, List.map_append] <;> (try simp (disch := omega) only [wI, wU, wC]) <;> exact rfl); (exact (Enters.of Try.func93 rfl rfl)); (exact indexFuncI l g caps p hg hk hcv hp hl); (focus (simp only [push_cast, seval, hcv, List.map_append] <;> first | trivial | assumption | (refine ⟨?_, ?_⟩ <;> assumption) | (simp; done))); (try dsimp only [putA, optG]))
  repeat (first | apply Wp.seq | apply Wp.block | (apply Run.next; (simp only [push_cast, seval, hcv, List.map_append] <;> (try simp (disch := omega) only [wI, wU, wC]) <;> exact rfl); (focus ((try simp only [push_cast, seval, hcv, List.map_append]) <;> exact sT))) | ((first | apply Run.nil | apply Wp.skip); dsimp only [sQ, tQ, bQ]) | (apply Wp.run; (dsimp only [List.map] <;> exact rfl); exact rfl) | (apply Wp.exit; dsimp only [sQ, tQ, bQ]; simp only [reduceIte]))
  (apply Wp.ret; (try dsimp only [sQ, tQ, bQ]); apply leave0; exact rfl; (simp only [push_cast, seval, hcv, List.map_append] <;> (try simp (disch := omega) only [wI, wU, wC]) <;> exact rfl); all_goals (try simp only [push_cast, seval, hcv, List.map_append]); (try rfl))
  split <;> simp_all
end Go.Proofs.Try
set_option maxHeartbeats 8000000
namespace Go.Proofs.Try
open Go.Vg

def stB (x : St) : Bool := wi x.items 0 8 && wi x.life 1 100
def lnB (n : Int) (x : Ln) : Bool := wi x.kind 0 (n - 1) && wi x.room 0 100 && wi x.to 1 1440 && wi x.fr 0 (IntKind.i64.wrap (x.to - 1)) && wi x.uses 0 100
def checkB (ks : List St) (ls : List Ln) : Bool := decide (ks.length ≤ 8) && decide (ls.length ≤ 20) && ks.all stB && ls.all (lnB ks.length)
def chkE (ks : List St) (ls : List Ln) : Int := if checkB ks ls then 0 else 100
theorem check1_pure (x : St) : Pure Try.prog 66 [stA x] (.bool (!stB x)) := by
  (refine Spec.of_body Try.func66 rfl (by rw [Try.ntmps66]; simp) 0 (by simp) ?_; rw [Try.results66, Try.ntmps66]; simp only [entry, zipArgs, Nat.reduceAdd])
  repeat (first | apply Wp.seq | apply Wp.block | (apply Run.next; (simp only [push_cast, seval] <;> (try simp (disch := omega) only [wI, wU, wC]) <;> exact rfl); (focus ((try simp only [push_cast, seval]) <;> exact sT))) | ((first | apply Run.nil | apply Wp.skip); dsimp only [sQ, tQ, bQ]) | (apply Wp.run; (dsimp only [List.map] <;> exact rfl); exact rfl) | (apply Wp.exit; dsimp only [sQ, tQ, bQ]; simp only [reduceIte]))
  (apply Run.pureP; (simp only [push_cast, seval] <;> (try simp (disch := omega) only [wI, wU, wC]) <;> exact rfl); (exact (Enters.of Try.func61 rfl rfl)); (exact within_pure _ _ _); (focus (simp only [push_cast, seval] <;> first | trivial | assumption | (refine ⟨?_, ?_⟩ <;> assumption) | (simp; done))); (try dsimp only [putA, optG]))
  repeat (first | apply Wp.seq | apply Wp.block | (apply Run.next; (simp only [push_cast, seval] <;> (try simp (disch := omega) only [wI, wU, wC]) <;> exact rfl); (focus ((try simp only [push_cast, seval]) <;> exact sT))) | ((first | apply Run.nil | apply Wp.skip); dsimp only [sQ, tQ, bQ]) | (apply Wp.run; (dsimp only [List.map] <;> exact rfl); exact rfl) | (apply Wp.exit; dsimp only [sQ, tQ, bQ]; simp only [reduceIte]))
  cases h : wi x.items 0 8 with
  | false =>
    repeat (first | apply Wp.seq | apply Wp.block | (apply Run.next; (simp only [push_cast, seval, h] <;> (try simp (disch := omega) only [wI, wU, wC]) <;> exact rfl); (focus ((try simp only [push_cast, seval, h]) <;> exact sT))) | ((first | apply Run.nil | apply Wp.skip); dsimp only [sQ, tQ, bQ]) | (apply Wp.run; (dsimp only [List.map] <;> exact rfl); exact rfl) | (apply Wp.exit; dsimp only [sQ, tQ, bQ]; simp only [reduceIte]) | (apply Run.gtrue; (simp only [push_cast, seval, h] <;> (try simp (disch := omega) only [wI, wU, wC]) <;> exact rfl); (simp only [push_cast, seval, h] <;> (try simp (disch := omega) only [wI, wU, wC]) <;> exact rfl)) | (apply Run.gfalse (.bool false); (simp only [push_cast, seval, h] <;> (try simp (disch := omega) only [wI, wU, wC]) <;> exact rfl); dsimp only [S.put, optG]) | (apply Wp.condT; (simp only [push_cast, seval, h] <;> (try simp (disch := omega) only [wI, wU, wC]) <;> exact rfl)) | (apply Wp.condF; (simp only [push_cast, seval, h] <;> (try simp (disch := omega) only [wI, wU, wC]) <;> exact rfl)))
    (apply Wp.ret; (try dsimp only [sQ, tQ, bQ]); apply leave0; exact rfl; (simp only [push_cast, seval, h] <;> (try simp (disch := omega) only [wI, wU, wC]) <;> exact rfl); all_goals (try simp only [push_cast, seval, h]); (try rfl))
    simp [stB, h]
  | true =>
    repeat (first | apply Wp.seq | apply Wp.block | (apply Run.next; (simp only [push_cast, seval, h] <;> (try simp (disch := omega) only [wI, wU, wC]) <;> exact rfl); (focus ((try simp only [push_cast, seval, h]) <;> exact sT))) | ((first | apply Run.nil | apply Wp.skip); dsimp only [sQ, tQ, bQ]) | (apply Wp.run; (dsimp only [List.map] <;> exact rfl); exact rfl) | (apply Wp.exit; dsimp only [sQ, tQ, bQ]; simp only [reduceIte]) | (apply Run.gtrue; (simp only [push_cast, seval, h] <;> (try simp (disch := omega) only [wI, wU, wC]) <;> exact rfl); (simp only [push_cast, seval, h] <;> (try simp (disch := omega) only [wI, wU, wC]) <;> exact rfl)) | (apply Run.gfalse (.bool false); (simp only [push_cast, seval, h] <;> (try simp (disch := omega) only [wI, wU, wC]) <;> exact rfl); dsimp only [S.put, optG]) | (apply Wp.condT; (simp only [push_cast, seval, h] <;> (try simp (disch := omega) only [wI, wU, wC]) <;> exact rfl)) | (apply Wp.condF; (simp only [push_cast, seval, h] <;> (try simp (disch := omega) only [wI, wU, wC]) <;> exact rfl)))
    (apply Run.pureP; (simp only [push_cast, seval, h] <;> (try simp (disch := omega) only [wI, wU, wC]) <;> exact rfl); (exact (Enters.of Try.func61 rfl rfl)); (exact within_pure _ _ _); (focus (simp only [push_cast, seval, h] <;> first | trivial | assumption | (refine ⟨?_, ?_⟩ <;> assumption) | (simp; done))); (try dsimp only [putA, optG]))
    repeat (first | apply Wp.seq | apply Wp.block | (apply Run.next; (simp only [push_cast, seval, h] <;> (try simp (disch := omega) only [wI, wU, wC]) <;> exact rfl); (focus ((try simp only [push_cast, seval, h]) <;> exact sT))) | ((first | apply Run.nil | apply Wp.skip); dsimp only [sQ, tQ, bQ]) | (apply Wp.run; (dsimp only [List.map] <;> exact rfl); exact rfl) | (apply Wp.exit; dsimp only [sQ, tQ, bQ]; simp only [reduceIte]))
    (apply Wp.ret; (try dsimp only [sQ, tQ, bQ]); apply leave0; exact rfl; (simp only [push_cast, seval, h] <;> (try simp (disch := omega) only [wI, wU, wC]) <;> exact rfl); all_goals (try simp only [push_cast, seval, h]); (try rfl))
    simp [stB, h]
theorem all_at {α : Type} {d : α} {p : α → Bool} {l : List α} (h : ∀ j, j < l.length → p (l.getD j d) = true) : l.all p = true := by
  rw [List.all_eq_true]
  intro x hx
  obtain ⟨i, hi, rfl⟩ := List.getElem_of_mem hx
  simpa [hi] using h i hi
theorem all_no {α : Type} {d : α} {p : α → Bool} {l : List α} {k : Nat} (hk : k < l.length) (h : p (l.getD k d) = false) : l.all p = false := by
  rw [← Bool.not_eq_true, List.all_eq_true]
  intro h2
  have := h2 (l.getD k d) (by simp [hk])
  rw [h] at this; cases this
theorem any_not {α : Type} (p : α → Bool) (l : List α) : (l.any fun x => !p x) = !l.all p := by
  induction l with
  | nil => rfl
  | cons a l ih => simp [ih, Bool.not_and]
theorem check_pure (ks : List St) (ls : List Ln) (hk : ks.length ≤ 9223372036854775807) (hl : ls.length ≤ 9223372036854775807) : Pure Try.prog 28 [storA ks ls] (.int (chkE ks ls)) := by
  (refine Spec.of_body Try.func28 rfl (by rw [Try.ntmps28]; simp) 0 (by simp) ?_; rw [Try.results28, Try.ntmps28]; simp only [entry, zipArgs, Nat.reduceAdd])
  repeat (first | apply Wp.seq | apply Wp.block | (apply Run.next; (simp only [push_cast, seval] <;> (try simp (disch := omega) only [wI, wU, wC]) <;> exact rfl); (focus ((try simp only [push_cast, seval]) <;> exact sT))) | ((first | apply Run.nil | apply Wp.skip); dsimp only [sQ, tQ, bQ]) | (apply Wp.run; (dsimp only [List.map] <;> exact rfl); exact rfl) | (apply Wp.exit; dsimp only [sQ, tQ, bQ]; simp only [reduceIte]))
  (apply Wp.cond; (simp only [push_cast, seval] <;> (try simp (disch := omega) only [wI, wU, wC]) <;> exact rfl))
  · intro hc
    simp only [Bool.or_eq_true, decide_eq_true_eq] at hc
    repeat (first | apply Wp.seq | apply Wp.block | (apply Run.next; (simp only [push_cast, seval] <;> (try simp (disch := omega) only [wI, wU, wC]) <;> exact rfl); (focus ((try simp only [push_cast, seval]) <;> exact sT))) | ((first | apply Run.nil | apply Wp.skip); dsimp only [sQ, tQ, bQ]) | (apply Wp.run; (dsimp only [List.map] <;> exact rfl); exact rfl) | (apply Wp.exit; dsimp only [sQ, tQ, bQ]; simp only [reduceIte]))
    (apply Wp.ret; (try dsimp only [sQ, tQ, bQ]); apply leave0; exact rfl; (simp only [push_cast, seval] <;> (try simp (disch := omega) only [wI, wU, wC]) <;> exact rfl); all_goals (try simp only [push_cast, seval]); (try rfl))
    rw [chkE, if_neg]
    simp only [checkB, Bool.and_eq_true, decide_eq_true_eq]
    omega
  · intro hc
    simp only [Bool.or_eq_false_iff, decide_eq_false_iff_not, Int.not_lt] at hc
    repeat (first | apply Wp.seq | apply Wp.block | (apply Run.next; (simp only [push_cast, seval] <;> (try simp (disch := omega) only [wI, wU, wC]) <;> exact rfl); (focus ((try simp only [push_cast, seval]) <;> exact sT))) | ((first | apply Run.nil | apply Wp.skip); dsimp only [sQ, tQ, bQ]) | (apply Wp.run; (dsimp only [List.map] <;> exact rfl); exact rfl) | (apply Wp.exit; dsimp only [sQ, tQ, bQ]; simp only [reduceIte]))
    (apply Run.pureP; (simp only [push_cast, seval] <;> (try simp (disch := omega) only [wI, wU, wC]) <;> exact rfl); (exact (Enters.of Try.func65 rfl rfl)); (exact containsFuncSt ks 66 [] (fun x => !stB x) (Enters.of Try.func66 rfl rfl) trivial (fun _ => ⟨rfl, rfl⟩) (fun x _ => check1_pure x) hk); (focus (simp only [push_cast, seval] <;> first | trivial | assumption | (refine ⟨?_, ?_⟩ <;> assumption) | (simp; done))); (try dsimp only [putA, optG]))
    rw [any_not]
    repeat (first | apply Wp.seq | apply Wp.block | (apply Run.next; (simp only [push_cast, seval] <;> (try simp (disch := omega) only [wI, wU, wC]) <;> exact rfl); (focus ((try simp only [push_cast, seval]) <;> exact sT))) | ((first | apply Run.nil | apply Wp.skip); dsimp only [sQ, tQ, bQ]) | (apply Wp.run; (dsimp only [List.map] <;> exact rfl); exact rfl) | (apply Wp.exit; dsimp only [sQ, tQ, bQ]; simp only [reduceIte]))
    cases hs : ks.all stB with
    | false =>
      repeat (first | apply Wp.seq | apply Wp.block | (apply Run.next; (simp only [push_cast, seval, hs] <;> (try simp (disch := omega) only [wI, wU, wC]) <;> exact rfl); (focus ((try simp only [push_cast, seval, hs]) <;> exact sT))) | ((first | apply Run.nil | apply Wp.skip); dsimp only [sQ, tQ, bQ]) | (apply Wp.run; (dsimp only [List.map] <;> exact rfl); exact rfl) | (apply Wp.exit; dsimp only [sQ, tQ, bQ]; simp only [reduceIte]) | (apply Run.gtrue; (simp only [push_cast, seval, hs] <;> (try simp (disch := omega) only [wI, wU, wC]) <;> exact rfl); (simp only [push_cast, seval, hs] <;> (try simp (disch := omega) only [wI, wU, wC]) <;> exact rfl)) | (apply Run.gfalse (.bool false); (simp only [push_cast, seval, hs] <;> (try simp (disch := omega) only [wI, wU, wC]) <;> exact rfl); dsimp only [S.put, optG]) | (apply Wp.condT; (simp only [push_cast, seval, hs] <;> (try simp (disch := omega) only [wI, wU, wC]) <;> exact rfl)) | (apply Wp.condF; (simp only [push_cast, seval, hs] <;> (try simp (disch := omega) only [wI, wU, wC]) <;> exact rfl)))
      (apply Wp.ret; (try dsimp only [sQ, tQ, bQ]); apply leave0; exact rfl; (simp only [push_cast, seval, hs] <;> (try simp (disch := omega) only [wI, wU, wC]) <;> exact rfl); all_goals (try simp only [push_cast, seval, hs]); (try rfl))
      simp [chkE, checkB, hs]
    | true =>
      repeat (first | apply Wp.seq | apply Wp.block | (apply Run.next; (simp only [push_cast, seval, hs] <;> (try simp (disch := omega) only [wI, wU, wC]) <;> exact rfl); (focus ((try simp only [push_cast, seval, hs]) <;> exact sT))) | ((first | apply Run.nil | apply Wp.skip); dsimp only [sQ, tQ, bQ]) | (apply Wp.run; (dsimp only [List.map] <;> exact rfl); exact rfl) | (apply Wp.exit; dsimp only [sQ, tQ, bQ]; simp only [reduceIte]) | (apply Run.gtrue; (simp only [push_cast, seval, hs] <;> (try simp (disch := omega) only [wI, wU, wC]) <;> exact rfl); (simp only [push_cast, seval, hs] <;> (try simp (disch := omega) only [wI, wU, wC]) <;> exact rfl)) | (apply Run.gfalse (.bool false); (simp only [push_cast, seval, hs] <;> (try simp (disch := omega) only [wI, wU, wC]) <;> exact rfl); dsimp only [S.put, optG]) | (apply Wp.condT; (simp only [push_cast, seval, hs] <;> (try simp (disch := omega) only [wI, wU, wC]) <;> exact rfl)) | (apply Wp.condF; (simp only [push_cast, seval, hs] <;> (try simp (disch := omega) only [wI, wU, wC]) <;> exact rfl)))
      (refine Wp.vacs 1 ?_; (try simp only [List.replicate_succ, List.replicate_zero, List.cons_append, List.nil_append]))
      refine Wp.loop (fun (q : Nat × Kind) => { t := [(1, .optr 0 0 0 0), (19, .lst 5 (ls.map lnA)), (20, .int ls.length), (21, .int q.1)], m := [⟨0, .row 2 [storA ks ls]⟩, ⟨q.1, q.2⟩], n := 61 }) (fun q => q.1 ≤ ls.length ∧ ∀ j, j < q.1 → lnB ks.length (ls.getD j ln0) = true) (fun q => ls.length - q.1) (0, .row 1 []) ?_ ?_ ?_
      · (refine Le.of ?_ ?_ rfl rfl <;> (try simp only [push_cast, seval, hs]) <;> (try (with_reducible rfl)))
      · simp
      · rintro ⟨k, kd⟩ ⟨hk1, hk2⟩
        repeat (first | apply Wp.seq | apply Wp.block | (apply Run.calm; exact rfl; (simp only [push_cast, seval, hs] <;> (try simp (disch := omega) only [wI, wU, wC]) <;> exact rfl); (focus ((try simp only [push_cast, seval, hs]) <;> exact sT))) | ((first | apply Run.nil | apply Wp.skip); dsimp only [sQ, tQ, bQ]) | (apply Wp.run; (dsimp only [List.map] <;> exact rfl); exact rfl) | (apply Wp.exit; dsimp only [sQ, tQ, bQ]; simp only [reduceIte]))
        (apply Wp.cond; (simp only [push_cast, seval, hs] <;> (try simp (disch := omega) only [wI, wU, wC]) <;> exact rfl))
        · (intro hc; try simp only [decide_eq_true_eq, decide_eq_false_iff_not, Bool.and_eq_true, Bool.or_eq_true, Bool.not_eq_true, Bool.not_eq_false, Bool.not_eq_true', Bool.not_eq_false', Bool.and_eq_false_iff, Bool.or_eq_false_iff, Int.not_lt, Int.not_le, Int.ofNat_lt, Int.ofNat_le] at hc)
          generalize hx : ls.getD k ln0 = x
          repeat (first | apply Wp.seq | apply Wp.block | (apply Run.calm; exact rfl; (simp only [push_cast, seval, hs, hx] <;> (try simp (disch := omega) only [wI, wU, wC]) <;> exact rfl); (focus ((try simp only [push_cast, seval, hs, hx]) <;> exact sT))) | ((first | apply Run.nil | apply Wp.skip); dsimp only [sQ, tQ, bQ]) | (apply Wp.run; (dsimp only [List.map] <;> exact rfl); exact rfl) | (apply Wp.exit; dsimp only [sQ, tQ, bQ]; simp only [reduceIte]))
          (apply Run.alcAt 1; (simp only [push_cast, seval, hs, hx] <;> (try simp (disch := omega) only [wI, wU, wC]) <;> exact rfl); (focus ((try simp only [push_cast, seval, hs, hx]) <;> exact sT)); exact rfl; (try simp only [push_cast, seval, hs, hx]))
          repeat (first | apply Wp.seq | apply Wp.block | (apply Run.next; (simp only [push_cast, seval, hs, hx] <;> (try simp (disch := omega) only [wI, wU, wC]) <;> exact rfl); (focus ((try simp only [push_cast, seval, hs, hx]) <;> exact sT))) | ((first | apply Run.nil | apply Wp.skip); dsimp only [sQ, tQ, bQ]) | (apply Wp.run; (dsimp only [List.map] <;> exact rfl); exact rfl) | (apply Wp.exit; dsimp only [sQ, tQ, bQ]; simp only [reduceIte]))
          (apply Run.pureP; (simp only [push_cast, seval, hs, hx] <;> (try simp (disch := omega) only [wI, wU, wC]) <;> exact rfl); (exact (Enters.of Try.func61 rfl rfl)); (exact within_pure _ _ _); (focus (simp only [push_cast, seval, hs, hx] <;> first | trivial | assumption | (refine ⟨?_, ?_⟩ <;> assumption) | (simp; done))); (try dsimp only [putA, optG]))
          repeat (first | apply Wp.seq | apply Wp.block | (apply Run.next; (simp only [push_cast, seval, hs, hx] <;> (try simp (disch := omega) only [wI, wU, wC]) <;> exact rfl); (focus ((try simp only [push_cast, seval, hs, hx]) <;> exact sT))) | ((first | apply Run.nil | apply Wp.skip); dsimp only [sQ, tQ, bQ]) | (apply Wp.run; (dsimp only [List.map] <;> exact rfl); exact rfl) | (apply Wp.exit; dsimp only [sQ, tQ, bQ]; simp only [reduceIte]))
          (apply Run.pureP; (simp only [push_cast, seval, hs, hx] <;> (try simp (disch := omega) only [wI, wU, wC]) <;> exact rfl); (exact (Enters.of Try.func61 rfl rfl)); (exact within_pure _ _ _); (focus (simp only [push_cast, seval, hs, hx] <;> first | trivial | assumption | (refine ⟨?_, ?_⟩ <;> assumption) | (simp; done))); (try dsimp only [putA, optG]))
          repeat (first | apply Wp.seq | apply Wp.block | (apply Run.next; (simp only [push_cast, seval, hs, hx] <;> (try simp (disch := omega) only [wI, wU, wC]) <;> exact rfl); (focus ((try simp only [push_cast, seval, hs, hx]) <;> exact sT))) | ((first | apply Run.nil | apply Wp.skip); dsimp only [sQ, tQ, bQ]) | (apply Wp.run; (dsimp only [List.map] <;> exact rfl); exact rfl) | (apply Wp.exit; dsimp only [sQ, tQ, bQ]; simp only [reduceIte]))
          (apply Run.pureP; (simp only [push_cast, seval, hs, hx] <;> (try simp (disch := omega) only [wI, wU, wC]) <;> exact rfl); (exact (Enters.of Try.func61 rfl rfl)); (exact within_pure _ _ _); (focus (simp only [push_cast, seval, hs, hx] <;> first | trivial | assumption | (refine ⟨?_, ?_⟩ <;> assumption) | (simp; done))); (try dsimp only [putA, optG]))
          repeat (first | apply Wp.seq | apply Wp.block | (apply Run.next; (simp only [push_cast, seval, hs, hx] <;> (try simp (disch := omega) only [wI, wU, wC]) <;> exact rfl); (focus ((try simp only [push_cast, seval, hs, hx]) <;> exact sT))) | ((first | apply Run.nil | apply Wp.skip); dsimp only [sQ, tQ, bQ]) | (apply Wp.run; (dsimp only [List.map] <;> exact rfl); exact rfl) | (apply Wp.exit; dsimp only [sQ, tQ, bQ]; simp only [reduceIte]))
          (apply Run.pureP; (simp only [push_cast, seval, hs, hx] <;> (try simp (disch := omega) only [wI, wU, wC]) <;> exact rfl); (exact (Enters.of Try.func61 rfl rfl)); (exact within_pure _ _ _); (focus (simp only [push_cast, seval, hs, hx] <;> first | trivial | assumption | (refine ⟨?_, ?_⟩ <;> assumption) | (simp; done))); (try dsimp only [putA, optG]))
          repeat (first | apply Wp.seq | apply Wp.block | (apply Run.next; (simp only [push_cast, seval, hs, hx] <;> (try simp (disch := omega) only [wI, wU, wC]) <;> exact rfl); (focus ((try simp only [push_cast, seval, hs, hx]) <;> exact sT))) | ((first | apply Run.nil | apply Wp.skip); dsimp only [sQ, tQ, bQ]) | (apply Wp.run; (dsimp only [List.map] <;> exact rfl); exact rfl) | (apply Wp.exit; dsimp only [sQ, tQ, bQ]; simp only [reduceIte]))
          (apply Run.pureP; (simp only [push_cast, seval, hs, hx] <;> (try simp (disch := omega) only [wI, wU, wC]) <;> exact rfl); (exact (Enters.of Try.func61 rfl rfl)); (exact within_pure _ _ _); (focus (simp only [push_cast, seval, hs, hx] <;> first | trivial | assumption | (refine ⟨?_, ?_⟩ <;> assumption) | (simp; done))); (try dsimp only [putA, optG]))
          repeat (first | apply Wp.seq | apply Wp.block | (apply Run.next; (simp only [push_cast, seval, hs, hx] <;> (try simp (disch := omega) only [wI, wU, wC]) <;> exact rfl); (focus ((try simp only [push_cast, seval, hs, hx]) <;> exact sT))) | ((first | apply Run.nil | apply Wp.skip); dsimp only [sQ, tQ, bQ]) | (apply Wp.run; (dsimp only [List.map] <;> exact rfl); exact rfl) | (apply Wp.exit; dsimp only [sQ, tQ, bQ]; simp only [reduceIte]))
          (apply Wp.cond; (simp only [push_cast, seval, hs, hx] <;> (try simp (disch := omega) only [wI, wU, wC]) <;> exact rfl))
          · intro h2
            repeat (first | apply Wp.seq | apply Wp.block | (apply Run.next; (simp only [push_cast, seval, hs, hx] <;> (try simp (disch := omega) only [wI, wU, wC]) <;> exact rfl); (focus ((try simp only [push_cast, seval, hs, hx]) <;> exact sT))) | ((first | apply Run.nil | apply Wp.skip); dsimp only [sQ, tQ, bQ]) | (apply Wp.run; (dsimp only [List.map] <;> exact rfl); exact rfl) | (apply Wp.exit; dsimp only [sQ, tQ, bQ]; simp only [reduceIte]))
            (apply Wp.ret; (try dsimp only [sQ, tQ, bQ]); apply leave0; exact rfl; (simp only [push_cast, seval, hs, hx] <;> (try simp (disch := omega) only [wI, wU, wC]) <;> exact rfl); all_goals (try simp only [push_cast, seval, hs, hx]); (try rfl))
            have h3 : lnB ks.length x = false := by rw [← Bool.not_eq_true]; intro h3; simp only [lnB, Bool.and_eq_true] at h3; simp [h3] at h2
            rw [← hx] at h3
            simp [chkE, checkB, all_no hc h3]
          · intro h2
            repeat (first | apply Wp.seq | apply Wp.block | (apply Run.next; (simp only [push_cast, seval, hs, hx] <;> (try simp (disch := omega) only [wI, wU, wC]) <;> exact rfl); (focus ((try simp only [push_cast, seval, hs, hx]) <;> exact sT))) | ((first | apply Run.nil | apply Wp.skip); dsimp only [sQ, tQ, bQ]) | (apply Wp.run; (dsimp only [List.map] <;> exact rfl); exact rfl) | (apply Wp.exit; dsimp only [sQ, tQ, bQ]; simp only [reduceIte]))
            have h3 : lnB ks.length x = true := by simpa [lnB] using h2
            rw [← hx] at h3
            refine ⟨(k + 1, .row 5 [lnA x]), ?_, ⟨by simp only; omega, fun j hj => ?_⟩, by simp only; omega⟩
            · (refine Le.of ?_ ?_ rfl rfl <;> (try simp only [push_cast, seval, hs, hx]) <;> (try (with_reducible rfl)))
            · by_cases hjk : j = k
              · subst hjk; exact h3
              · exact hk2 j (by simp only at hj; omega)
        · (intro hc; try simp only [decide_eq_true_eq, decide_eq_false_iff_not, Bool.and_eq_true, Bool.or_eq_true, Bool.not_eq_true, Bool.not_eq_false, Bool.not_eq_true', Bool.not_eq_false', Bool.and_eq_false_iff, Bool.or_eq_false_iff, Int.not_lt, Int.not_le, Int.ofNat_lt, Int.ofNat_le] at hc)
          repeat (first | apply Wp.seq | apply Wp.block | (apply Run.next; (simp only [push_cast, seval, hs] <;> (try simp (disch := omega) only [wI, wU, wC]) <;> exact rfl); (focus ((try simp only [push_cast, seval, hs]) <;> exact sT))) | ((first | apply Run.nil | apply Wp.skip); dsimp only [sQ, tQ, bQ]) | (apply Wp.run; (dsimp only [List.map] <;> exact rfl); exact rfl) | (apply Wp.exit; dsimp only [sQ, tQ, bQ]; simp only [reduceIte]))
          (apply Wp.ret; (try dsimp only [sQ, tQ, bQ]); apply leave0; exact rfl; (simp only [push_cast, seval, hs] <;> (try simp (disch := omega) only [wI, wU, wC]) <;> exact rfl); all_goals (try simp only [push_cast, seval, hs]); (try rfl))
          have h3 : ls.all (lnB ks.length) = true := all_at fun j hj => hk2 j (by omega)
          rw [chkE, if_pos]
          simp only [checkB, hs, h3, Bool.and_true, Bool.and_eq_true, decide_eq_true_eq]
          omega
theorem rcheck_pure (ks : List St) (ls : List Ln) (hk : ks.length ≤ 9223372036854775807) (hl : ls.length ≤ 9223372036854775807) : Pure Try.prog 29 [storA ks ls] (.int (chkE ks ls)) := by
  (refine Spec.of_body Try.func29 rfl (by rw [Try.ntmps29]; simp) 0 (by simp) ?_; rw [Try.results29, Try.ntmps29]; simp only [entry, zipArgs, Nat.reduceAdd])
  repeat (first | apply Wp.seq | apply Wp.block | (apply Run.next; (simp only [push_cast, seval] <;> (try simp (disch := omega) only [wI, wU, wC]) <;> exact rfl); (focus ((try simp only [push_cast, seval]) <;> exact sT))) | ((first | apply Run.nil | apply Wp.skip); dsimp only [sQ, tQ, bQ]) | (apply Wp.run; (dsimp only [List.map] <;> exact rfl); exact rfl) | (apply Wp.exit; dsimp only [sQ, tQ, bQ]; simp only [reduceIte]))
  (apply Wp.cond; (simp only [push_cast, seval] <;> (try simp (disch := omega) only [wI, wU, wC]) <;> exact rfl))
  · intro hc
    simp only [Bool.or_eq_true, decide_eq_true_eq] at hc
    repeat (first | apply Wp.seq | apply Wp.block | (apply Run.next; (simp only [push_cast, seval] <;> (try simp (disch := omega) only [wI, wU, wC]) <;> exact rfl); (focus ((try simp only [push_cast, seval]) <;> exact sT))) | ((first | apply Run.nil | apply Wp.skip); dsimp only [sQ, tQ, bQ]) | (apply Wp.run; (dsimp only [List.map] <;> exact rfl); exact rfl) | (apply Wp.exit; dsimp only [sQ, tQ, bQ]; simp only [reduceIte]))
    (apply Wp.ret; (try dsimp only [sQ, tQ, bQ]); apply leave0; exact rfl; (simp only [push_cast, seval] <;> (try simp (disch := omega) only [wI, wU, wC]) <;> exact rfl); all_goals (try simp only [push_cast, seval]); (try rfl))
    rw [chkE, if_neg]
    simp only [checkB, Bool.and_eq_true, decide_eq_true_eq]
    omega
  · intro hc
    simp only [Bool.or_eq_false_iff, decide_eq_false_iff_not, Int.not_lt] at hc
    repeat (first | apply Wp.seq | apply Wp.block | (apply Run.next; (simp only [push_cast, seval] <;> (try simp (disch := omega) only [wI, wU, wC]) <;> exact rfl); (focus ((try simp only [push_cast, seval]) <;> exact sT))) | ((first | apply Run.nil | apply Wp.skip); dsimp only [sQ, tQ, bQ]) | (apply Wp.run; (dsimp only [List.map] <;> exact rfl); exact rfl) | (apply Wp.exit; dsimp only [sQ, tQ, bQ]; simp only [reduceIte]))
    refine Wp.loop (fun k : Nat => { t := [(1, .optr 0 0 0 0), (3, .int k)], m := [⟨0, .row 2 [storA ks ls]⟩], n := 88 }) (fun k => k ≤ ks.length ∧ ∀ j, j < k → stB (ks.getD j st0) = true) (fun k => ks.length - k) 0 ?_ ?_ ?_
    · (refine Le.of ?_ ?_ rfl rfl <;> (try simp only [push_cast, seval]) <;> (try (with_reducible rfl)))
    · simp
    · rintro k ⟨hk1, hk2⟩
      repeat (first | apply Wp.seq | apply Wp.block | (apply Run.next; (simp only [push_cast, seval] <;> (try simp (disch := omega) only [wI, wU, wC]) <;> exact rfl); (focus ((try simp only [push_cast, seval]) <;> exact sT))) | ((first | apply Run.nil | apply Wp.skip); dsimp only [sQ, tQ, bQ]) | (apply Wp.run; (dsimp only [List.map] <;> exact rfl); exact rfl) | (apply Wp.exit; dsimp only [sQ, tQ, bQ]; simp only [reduceIte]))
      (apply Wp.cond; (simp only [push_cast, seval] <;> (try simp (disch := omega) only [wI, wU, wC]) <;> exact rfl))
      · (intro hc; try simp only [decide_eq_true_eq, decide_eq_false_iff_not, Bool.and_eq_true, Bool.or_eq_true, Bool.not_eq_true, Bool.not_eq_false, Bool.not_eq_true', Bool.not_eq_false', Bool.and_eq_false_iff, Bool.or_eq_false_iff, Int.not_lt, Int.not_le, Int.ofNat_lt, Int.ofNat_le] at hc)
        generalize hx : ks.getD k st0 = x
        repeat (first | apply Wp.seq | apply Wp.block | (apply Run.next; (simp only [push_cast, seval, hx] <;> (try simp (disch := omega) only [wI, wU, wC]) <;> exact rfl); (focus ((try simp only [push_cast, seval, hx]) <;> exact sT))) | ((first | apply Run.nil | apply Wp.skip); dsimp only [sQ, tQ, bQ]) | (apply Wp.run; (dsimp only [List.map] <;> exact rfl); exact rfl) | (apply Wp.exit; dsimp only [sQ, tQ, bQ]; simp only [reduceIte]))
        (apply Run.pureP; (simp only [push_cast, seval, hx] <;> (try simp (disch := omega) only [wI, wU, wC]) <;> exact rfl); (exact (Enters.of Try.func52 rfl rfl)); (exact rwithin_pure _ _ _); (focus (simp only [push_cast, seval, hx] <;> first | trivial | assumption | (refine ⟨?_, ?_⟩ <;> assumption) | (simp; done))); (try dsimp only [putA, optG]))
        repeat (first | apply Wp.seq | apply Wp.block | (apply Run.next; (simp only [push_cast, seval, hx] <;> (try simp (disch := omega) only [wI, wU, wC]) <;> exact rfl); (focus ((try simp only [push_cast, seval, hx]) <;> exact sT))) | ((first | apply Run.nil | apply Wp.skip); dsimp only [sQ, tQ, bQ]) | (apply Wp.run; (dsimp only [List.map] <;> exact rfl); exact rfl) | (apply Wp.exit; dsimp only [sQ, tQ, bQ]; simp only [reduceIte]))
        (apply Run.pureP; (simp only [push_cast, seval, hx] <;> (try simp (disch := omega) only [wI, wU, wC]) <;> exact rfl); (exact (Enters.of Try.func52 rfl rfl)); (exact rwithin_pure _ _ _); (focus (simp only [push_cast, seval, hx] <;> first | trivial | assumption | (refine ⟨?_, ?_⟩ <;> assumption) | (simp; done))); (try dsimp only [putA, optG]))
        repeat (first | apply Wp.seq | apply Wp.block | (apply Run.next; (simp only [push_cast, seval, hx] <;> (try simp (disch := omega) only [wI, wU, wC]) <;> exact rfl); (focus ((try simp only [push_cast, seval, hx]) <;> exact sT))) | ((first | apply Run.nil | apply Wp.skip); dsimp only [sQ, tQ, bQ]) | (apply Wp.run; (dsimp only [List.map] <;> exact rfl); exact rfl) | (apply Wp.exit; dsimp only [sQ, tQ, bQ]; simp only [reduceIte]))
        (apply Wp.cond; (simp only [push_cast, seval, hx] <;> (try simp (disch := omega) only [wI, wU, wC]) <;> exact rfl))
        · intro h2
          repeat (first | apply Wp.seq | apply Wp.block | (apply Run.next; (simp only [push_cast, seval, hx] <;> (try simp (disch := omega) only [wI, wU, wC]) <;> exact rfl); (focus ((try simp only [push_cast, seval, hx]) <;> exact sT))) | ((first | apply Run.nil | apply Wp.skip); dsimp only [sQ, tQ, bQ]) | (apply Wp.run; (dsimp only [List.map] <;> exact rfl); exact rfl) | (apply Wp.exit; dsimp only [sQ, tQ, bQ]; simp only [reduceIte]))
          (apply Wp.ret; (try dsimp only [sQ, tQ, bQ]); apply leave0; exact rfl; (simp only [push_cast, seval, hx] <;> (try simp (disch := omega) only [wI, wU, wC]) <;> exact rfl); all_goals (try simp only [push_cast, seval, hx]); (try rfl))
          have h3 : stB x = false := by rw [← Bool.not_eq_true]; intro h3; simp only [stB, Bool.and_eq_true] at h3; simp [h3] at h2
          rw [← hx] at h3
          simp [chkE, checkB, all_no hc h3]
        · intro h2
          repeat (first | apply Wp.seq | apply Wp.block | (apply Run.next; (simp only [push_cast, seval, hx] <;> (try simp (disch := omega) only [wI, wU, wC]) <;> exact rfl); (focus ((try simp only [push_cast, seval, hx]) <;> exact sT))) | ((first | apply Run.nil | apply Wp.skip); dsimp only [sQ, tQ, bQ]) | (apply Wp.run; (dsimp only [List.map] <;> exact rfl); exact rfl) | (apply Wp.exit; dsimp only [sQ, tQ, bQ]; simp only [reduceIte]))
          have h3 : stB x = true := by simpa [stB] using h2
          rw [← hx] at h3
          refine ⟨k + 1, ?_, ⟨by omega, fun j hj => ?_⟩, by omega⟩
          · (refine Le.of ?_ ?_ rfl rfl <;> (try simp only [push_cast, seval, hx]) <;> (try (with_reducible rfl)))
          · by_cases hjk : j = k
            · subst hjk; exact h3
            · exact hk2 j (by omega)
      · (intro hc; try simp only [decide_eq_true_eq, decide_eq_false_iff_not, Bool.and_eq_true, Bool.or_eq_true, Bool.not_eq_true, Bool.not_eq_false, Bool.not_eq_true', Bool.not_eq_false', Bool.and_eq_false_iff, Bool.or_eq_false_iff, Int.not_lt, Int.not_le, Int.ofNat_lt, Int.ofNat_le] at hc)
        have hs : ks.all stB = true := all_at fun j hj => hk2 j (by omega)
        repeat (first | apply Wp.seq | apply Wp.block | (apply Run.next; (simp only [push_cast, seval] <;> (try simp (disch := omega) only [wI, wU, wC]) <;> exact rfl); (focus ((try simp only [push_cast, seval]) <;> exact sT))) | ((first | apply Run.nil | apply Wp.skip); dsimp only [sQ, tQ, bQ]) | (apply Wp.run; (dsimp only [List.map] <;> exact rfl); exact rfl) | (apply Wp.exit; dsimp only [sQ, tQ, bQ]; simp only [reduceIte]))
        (refine Wp.vacs 1 ?_; (try simp only [List.replicate_succ, List.replicate_zero, List.cons_append, List.nil_append]))
        refine Wp.loop (fun (q : Nat × Kind) => { t := [(1, .optr 0 0 0 0), (4, .int q.1)], m := [⟨0, .row 2 [storA ks ls]⟩, ⟨q.1, q.2⟩], n := 88 }) (fun q => q.1 ≤ ls.length ∧ ∀ j, j < q.1 → lnB ks.length (ls.getD j ln0) = true) (fun q => ls.length - q.1) (0, .row 1 []) ?_ ?_ ?_
        · (refine Le.of ?_ ?_ rfl rfl <;> (try simp only [push_cast, seval]) <;> (try (with_reducible rfl)))
        · simp
        · rintro ⟨k, kd⟩ ⟨hk1, hk2⟩
          repeat (first | apply Wp.seq | apply Wp.block | (apply Run.calm; exact rfl; (simp only [push_cast, seval] <;> (try simp (disch := omega) only [wI, wU, wC]) <;> exact rfl); (focus ((try simp only [push_cast, seval]) <;> exact sT))) | ((first | apply Run.nil | apply Wp.skip); dsimp only [sQ, tQ, bQ]) | (apply Wp.run; (dsimp only [List.map] <;> exact rfl); exact rfl) | (apply Wp.exit; dsimp only [sQ, tQ, bQ]; simp only [reduceIte]))
          (apply Wp.cond; (simp only [push_cast, seval] <;> (try simp (disch := omega) only [wI, wU, wC]) <;> exact rfl))
          · (intro hc; try simp only [decide_eq_true_eq, decide_eq_false_iff_not, Bool.and_eq_true, Bool.or_eq_true, Bool.not_eq_true, Bool.not_eq_false, Bool.not_eq_true', Bool.not_eq_false', Bool.and_eq_false_iff, Bool.or_eq_false_iff, Int.not_lt, Int.not_le, Int.ofNat_lt, Int.ofNat_le] at hc)
            generalize hx : ls.getD k ln0 = x
            repeat (first | apply Wp.seq | apply Wp.block | (apply Run.calm; exact rfl; (simp only [push_cast, seval, hx] <;> (try simp (disch := omega) only [wI, wU, wC]) <;> exact rfl); (focus ((try simp only [push_cast, seval, hx]) <;> exact sT))) | ((first | apply Run.nil | apply Wp.skip); dsimp only [sQ, tQ, bQ]) | (apply Wp.run; (dsimp only [List.map] <;> exact rfl); exact rfl) | (apply Wp.exit; dsimp only [sQ, tQ, bQ]; simp only [reduceIte]))
            (apply Run.alcAt 1; (simp only [push_cast, seval, hx] <;> (try simp (disch := omega) only [wI, wU, wC]) <;> exact rfl); (focus ((try simp only [push_cast, seval, hx]) <;> exact sT)); exact rfl; (try simp only [push_cast, seval, hx]))
            repeat (first | apply Wp.seq | apply Wp.block | (apply Run.next; (simp only [push_cast, seval, hx] <;> (try simp (disch := omega) only [wI, wU, wC]) <;> exact rfl); (focus ((try simp only [push_cast, seval, hx]) <;> exact sT))) | ((first | apply Run.nil | apply Wp.skip); dsimp only [sQ, tQ, bQ]) | (apply Wp.run; (dsimp only [List.map] <;> exact rfl); exact rfl) | (apply Wp.exit; dsimp only [sQ, tQ, bQ]; simp only [reduceIte]))
            (apply Run.pureP; (simp only [push_cast, seval, hx] <;> (try simp (disch := omega) only [wI, wU, wC]) <;> exact rfl); (exact (Enters.of Try.func52 rfl rfl)); (exact rwithin_pure _ _ _); (focus (simp only [push_cast, seval, hx] <;> first | trivial | assumption | (refine ⟨?_, ?_⟩ <;> assumption) | (simp; done))); (try dsimp only [putA, optG]))
            repeat (first | apply Wp.seq | apply Wp.block | (apply Run.next; (simp only [push_cast, seval, hx] <;> (try simp (disch := omega) only [wI, wU, wC]) <;> exact rfl); (focus ((try simp only [push_cast, seval, hx]) <;> exact sT))) | ((first | apply Run.nil | apply Wp.skip); dsimp only [sQ, tQ, bQ]) | (apply Wp.run; (dsimp only [List.map] <;> exact rfl); exact rfl) | (apply Wp.exit; dsimp only [sQ, tQ, bQ]; simp only [reduceIte]))
            (apply Run.pureP; (simp only [push_cast, seval, hx] <;> (try simp (disch := omega) only [wI, wU, wC]) <;> exact rfl); (exact (Enters.of Try.func52 rfl rfl)); (exact rwithin_pure _ _ _); (focus (simp only [push_cast, seval, hx] <;> first | trivial | assumption | (refine ⟨?_, ?_⟩ <;> assumption) | (simp; done))); (try dsimp only [putA, optG]))
            repeat (first | apply Wp.seq | apply Wp.block | (apply Run.next; (simp only [push_cast, seval, hx] <;> (try simp (disch := omega) only [wI, wU, wC]) <;> exact rfl); (focus ((try simp only [push_cast, seval, hx]) <;> exact sT))) | ((first | apply Run.nil | apply Wp.skip); dsimp only [sQ, tQ, bQ]) | (apply Wp.run; (dsimp only [List.map] <;> exact rfl); exact rfl) | (apply Wp.exit; dsimp only [sQ, tQ, bQ]; simp only [reduceIte]))
            (apply Run.pureP; (simp only [push_cast, seval, hx] <;> (try simp (disch := omega) only [wI, wU, wC]) <;> exact rfl); (exact (Enters.of Try.func52 rfl rfl)); (exact rwithin_pure _ _ _); (focus (simp only [push_cast, seval, hx] <;> first | trivial | assumption | (refine ⟨?_, ?_⟩ <;> assumption) | (simp; done))); (try dsimp only [putA, optG]))
            repeat (first | apply Wp.seq | apply Wp.block | (apply Run.next; (simp only [push_cast, seval, hx] <;> (try simp (disch := omega) only [wI, wU, wC]) <;> exact rfl); (focus ((try simp only [push_cast, seval, hx]) <;> exact sT))) | ((first | apply Run.nil | apply Wp.skip); dsimp only [sQ, tQ, bQ]) | (apply Wp.run; (dsimp only [List.map] <;> exact rfl); exact rfl) | (apply Wp.exit; dsimp only [sQ, tQ, bQ]; simp only [reduceIte]))
            (apply Run.pureP; (simp only [push_cast, seval, hx] <;> (try simp (disch := omega) only [wI, wU, wC]) <;> exact rfl); (exact (Enters.of Try.func52 rfl rfl)); (exact rwithin_pure _ _ _); (focus (simp only [push_cast, seval, hx] <;> first | trivial | assumption | (refine ⟨?_, ?_⟩ <;> assumption) | (simp; done))); (try dsimp only [putA, optG]))
            repeat (first | apply Wp.seq | apply Wp.block | (apply Run.next; (simp only [push_cast, seval, hx] <;> (try simp (disch := omega) only [wI, wU, wC]) <;> exact rfl); (focus ((try simp only [push_cast, seval, hx]) <;> exact sT))) | ((first | apply Run.nil | apply Wp.skip); dsimp only [sQ, tQ, bQ]) | (apply Wp.run; (dsimp only [List.map] <;> exact rfl); exact rfl) | (apply Wp.exit; dsimp only [sQ, tQ, bQ]; simp only [reduceIte]))
            (apply Run.pureP; (simp only [push_cast, seval, hx] <;> (try simp (disch := omega) only [wI, wU, wC]) <;> exact rfl); (exact (Enters.of Try.func52 rfl rfl)); (exact rwithin_pure _ _ _); (focus (simp only [push_cast, seval, hx] <;> first | trivial | assumption | (refine ⟨?_, ?_⟩ <;> assumption) | (simp; done))); (try dsimp only [putA, optG]))
            repeat (first | apply Wp.seq | apply Wp.block | (apply Run.next; (simp only [push_cast, seval, hx] <;> (try simp (disch := omega) only [wI, wU, wC]) <;> exact rfl); (focus ((try simp only [push_cast, seval, hx]) <;> exact sT))) | ((first | apply Run.nil | apply Wp.skip); dsimp only [sQ, tQ, bQ]) | (apply Wp.run; (dsimp only [List.map] <;> exact rfl); exact rfl) | (apply Wp.exit; dsimp only [sQ, tQ, bQ]; simp only [reduceIte]))
            (apply Wp.cond; (simp only [push_cast, seval, hx] <;> (try simp (disch := omega) only [wI, wU, wC]) <;> exact rfl))
            · intro h2
              repeat (first | apply Wp.seq | apply Wp.block | (apply Run.next; (simp only [push_cast, seval, hx] <;> (try simp (disch := omega) only [wI, wU, wC]) <;> exact rfl); (focus ((try simp only [push_cast, seval, hx]) <;> exact sT))) | ((first | apply Run.nil | apply Wp.skip); dsimp only [sQ, tQ, bQ]) | (apply Wp.run; (dsimp only [List.map] <;> exact rfl); exact rfl) | (apply Wp.exit; dsimp only [sQ, tQ, bQ]; simp only [reduceIte]))
              (apply Wp.ret; (try dsimp only [sQ, tQ, bQ]); apply leave0; exact rfl; (simp only [push_cast, seval, hx] <;> (try simp (disch := omega) only [wI, wU, wC]) <;> exact rfl); all_goals (try simp only [push_cast, seval, hx]); (try rfl))
              have h3 : lnB ks.length x = false := by rw [← Bool.not_eq_true]; intro h3; simp only [lnB, Bool.and_eq_true] at h3; simp [h3] at h2
              rw [← hx] at h3
              simp [chkE, checkB, all_no hc h3]
            · intro h2
              repeat (first | apply Wp.seq | apply Wp.block | (apply Run.next; (simp only [push_cast, seval, hx] <;> (try simp (disch := omega) only [wI, wU, wC]) <;> exact rfl); (focus ((try simp only [push_cast, seval, hx]) <;> exact sT))) | ((first | apply Run.nil | apply Wp.skip); dsimp only [sQ, tQ, bQ]) | (apply Wp.run; (dsimp only [List.map] <;> exact rfl); exact rfl) | (apply Wp.exit; dsimp only [sQ, tQ, bQ]; simp only [reduceIte]))
              have h3 : lnB ks.length x = true := by simpa [lnB] using h2
              rw [← hx] at h3
              refine ⟨(k + 1, .row 5 [lnA x]), ?_, ⟨by simp only; omega, fun j hj => ?_⟩, by simp only; omega⟩
              · (refine Le.of ?_ ?_ rfl rfl <;> (try simp only [push_cast, seval, hx]) <;> (try (with_reducible rfl)))
              · by_cases hjk : j = k
                · subst hjk; exact h3
                · exact hk2 j (by simp only at hj; omega)
          · (intro hc; try simp only [decide_eq_true_eq, decide_eq_false_iff_not, Bool.and_eq_true, Bool.or_eq_true, Bool.not_eq_true, Bool.not_eq_false, Bool.not_eq_true', Bool.not_eq_false', Bool.and_eq_false_iff, Bool.or_eq_false_iff, Int.not_lt, Int.not_le, Int.ofNat_lt, Int.ofNat_le] at hc)
            repeat (first | apply Wp.seq | apply Wp.block | (apply Run.next; (simp only [push_cast, seval] <;> (try simp (disch := omega) only [wI, wU, wC]) <;> exact rfl); (focus ((try simp only [push_cast, seval]) <;> exact sT))) | ((first | apply Run.nil | apply Wp.skip); dsimp only [sQ, tQ, bQ]) | (apply Wp.run; (dsimp only [List.map] <;> exact rfl); exact rfl) | (apply Wp.exit; dsimp only [sQ, tQ, bQ]; simp only [reduceIte]))
            (apply Wp.ret; (try dsimp only [sQ, tQ, bQ]); apply leave0; exact rfl; (simp only [push_cast, seval] <;> (try simp (disch := omega) only [wI, wU, wC]) <;> exact rfl); all_goals (try simp only [push_cast, seval]); (try rfl))
            have h3 : ls.all (lnB ks.length) = true := all_at fun j hj => hk2 j (by omega)
            rw [chkE, if_pos]
            simp only [checkB, hs, h3, Bool.and_true, Bool.and_eq_true, decide_eq_true_eq]
            omega
end Go.Proofs.Try
set_option maxHeartbeats 8000000
namespace Go.Proofs.Try
open Go.Vg

def ovB (a b : Ln) : Bool := (decide (a.kind = b.kind) && decide (a.fr < b.to)) && decide (b.fr < a.to)
theorem overlap_pure (a b : Ln) : Pure Try.prog 62 [lnA a, lnA b] (.bool (ovB a b)) := by
  (refine Spec.of_body Try.func62 rfl (by rw [Try.ntmps62]; simp) 0 (by simp) ?_; rw [Try.results62, Try.ntmps62]; simp only [entry, zipArgs, Nat.reduceAdd])
  repeat (first | apply Wp.seq | apply Wp.block | (apply Run.next; (simp only [push_cast, seval] <;> (try simp (disch := omega) only [wI, wU, wC]) <;> exact rfl); (focus ((try simp only [push_cast, seval]) <;> exact sT))) | ((first | apply Run.nil | apply Wp.skip); dsimp only [sQ, tQ, bQ]) | (apply Wp.run; (dsimp only [List.map] <;> exact rfl); exact rfl) | (apply Wp.exit; dsimp only [sQ, tQ, bQ]; simp only [reduceIte]))
  (apply Wp.ret; (try dsimp only [sQ, tQ, bQ]); apply leave0; exact rfl; (simp only [push_cast, seval] <;> (try simp (disch := omega) only [wI, wU, wC]) <;> exact rfl); all_goals (try simp only [push_cast, seval]); (try rfl))
structure SV (ks : List St) (ls : List Ln) : Prop where
  k8 : ks.length ≤ 8
  l20 : ls.length ≤ 20
  st : ∀ j, j < ks.length → (0 ≤ (ks.getD j st0).items ∧ (ks.getD j st0).items ≤ 8) ∧ 1 ≤ (ks.getD j st0).life ∧ (ks.getD j st0).life ≤ 100
  ln : ∀ i, i < ls.length → (0 ≤ (ls.getD i ln0).kind ∧ (ls.getD i ln0).kind < ks.length) ∧ (0 ≤ (ls.getD i ln0).fr ∧ (ls.getD i ln0).fr < (ls.getD i ln0).to ∧ (ls.getD i ln0).to ≤ 1440) ∧ 0 ≤ (ls.getD i ln0).uses ∧ (ls.getD i ln0).uses ≤ 100
theorem checkB_ok {ks : List St} {ls : List Ln} (h : checkB ks ls = true) : SV ks ls := by
  simp only [checkB, Bool.and_eq_true, decide_eq_true_eq, List.all_eq_true] at h
  obtain ⟨⟨⟨h1, h2⟩, h3⟩, h4⟩ := h
  refine ⟨h1, h2, fun j hj => ?_, fun i hi => ?_⟩
  · have := h3 _ (memSt hj)
    simp only [stB, Bool.and_eq_true, wi_iff] at this
    exact this
  · have := h4 _ (memLn hi)
    simp only [lnB, Bool.and_eq_true, wi_iff] at this
    obtain ⟨⟨⟨⟨q1, q2⟩, q3⟩, q4⟩, q5⟩ := this
    rw [wI (by omega) (by omega)] at q4
    omega
theorem item_pure {ks : List St} {ls : List Ln} (hv : SV ks ls) (kind n : Int) (hk : 0 ≤ kind ∧ kind < ks.length) : Pure Try.prog 73 [storA ks ls, .int kind, .int n] (.bool (wi n 0 ((ks.getD kind.toNat st0).items - 1))) := by
  have hs := hv.st kind.toNat (by omega)
  generalize hx : ks.getD kind.toNat st0 = x at *
  (refine Spec.of_body Try.func73 rfl (by rw [Try.ntmps73]; simp) 0 (by simp) ?_; rw [Try.results73, Try.ntmps73]; simp only [entry, zipArgs, Nat.reduceAdd])
  repeat (first | apply Wp.seq | apply Wp.block | (apply Run.next; (simp only [push_cast, seval, hx] <;> (try simp (disch := omega) only [wI, wU, wC]) <;> exact rfl); (focus ((try simp only [push_cast, seval, hx]) <;> exact sT))) | ((first | apply Run.nil | apply Wp.skip); dsimp only [sQ, tQ, bQ]) | (apply Wp.run; (dsimp only [List.map] <;> exact rfl); exact rfl) | (apply Wp.exit; dsimp only [sQ, tQ, bQ]; simp only [reduceIte]))
  (apply Run.pureP; (simp only [push_cast, seval, hx] <;> (try simp (disch := omega) only [wI, wU, wC]) <;> exact rfl); (exact (Enters.of Try.func61 rfl rfl)); (exact within_pure _ _ _); (focus (simp only [push_cast, seval, hx] <;> first | trivial | assumption | (refine ⟨?_, ?_⟩ <;> assumption) | (simp; done))); (try dsimp only [putA, optG]))
  repeat (first | apply Wp.seq | apply Wp.block | (apply Run.next; (simp only [push_cast, seval, hx] <;> (try simp (disch := omega) only [wI, wU, wC]) <;> exact rfl); (focus ((try simp only [push_cast, seval, hx]) <;> exact sT))) | ((first | apply Run.nil | apply Wp.skip); dsimp only [sQ, tQ, bQ]) | (apply Wp.run; (dsimp only [List.map] <;> exact rfl); exact rfl) | (apply Wp.exit; dsimp only [sQ, tQ, bQ]; simp only [reduceIte]))
  (apply Wp.ret; (try dsimp only [sQ, tQ, bQ]); apply leave0; exact rfl; (simp only [push_cast, seval, hx] <;> (try simp (disch := omega) only [wI, wU, wC]) <;> exact rfl); all_goals (try simp only [push_cast, seval, hx]); (try rfl))
theorem kinded_pure (ks : List St) (ls : List Ln) (kind : Int) (h : ks.length ≤ 8) : Pure Try.prog 60 [storA ks ls, .int kind] (.bool (wi kind 0 ((ks.length : Int) - 1))) := by
  (refine Spec.of_body Try.func60 rfl (by rw [Try.ntmps60]; simp) 0 (by simp) ?_; rw [Try.results60, Try.ntmps60]; simp only [entry, zipArgs, Nat.reduceAdd])
  repeat (first | apply Wp.seq | apply Wp.block | (apply Run.next; (simp only [push_cast, seval] <;> (try simp (disch := omega) only [wI, wU, wC]) <;> exact rfl); (focus ((try simp only [push_cast, seval]) <;> exact sT))) | ((first | apply Run.nil | apply Wp.skip); dsimp only [sQ, tQ, bQ]) | (apply Wp.run; (dsimp only [List.map] <;> exact rfl); exact rfl) | (apply Wp.exit; dsimp only [sQ, tQ, bQ]; simp only [reduceIte]))
  (apply Run.pureP; (simp only [push_cast, seval] <;> (try simp (disch := omega) only [wI, wU, wC]) <;> exact rfl); (exact (Enters.of Try.func61 rfl rfl)); (exact within_pure _ _ _); (focus (simp only [push_cast, seval] <;> first | trivial | assumption | (refine ⟨?_, ?_⟩ <;> assumption) | (simp; done))); (try dsimp only [putA, optG]))
  repeat (first | apply Wp.seq | apply Wp.block | (apply Run.next; (simp only [push_cast, seval] <;> (try simp (disch := omega) only [wI, wU, wC]) <;> exact rfl); (focus ((try simp only [push_cast, seval]) <;> exact sT))) | ((first | apply Run.nil | apply Wp.skip); dsimp only [sQ, tQ, bQ]) | (apply Wp.run; (dsimp only [List.map] <;> exact rfl); exact rfl) | (apply Wp.exit; dsimp only [sQ, tQ, bQ]; simp only [reduceIte]))
  (apply Wp.ret; (try dsimp only [sQ, tQ, bQ]); apply leave0; exact rfl; (simp only [push_cast, seval] <;> (try simp (disch := omega) only [wI, wU, wC]) <;> exact rfl); all_goals (try simp only [push_cast, seval]); (try rfl))
def plB (ks : List St) (ls : List Ln) (plan : List Int) (i : Nat) : Bool := wi (plan.getD i 0) (-1) ((ks.getD (ls.getD i ln0).kind.toNat st0).items - 1)
def planB (ks : List St) (ls : List Ln) (plan : List Int) : Bool := decide (plan.length = ls.length) && (List.range plan.length).all (plB ks ls plan)
def chk2E (ks : List St) (ls : List Ln) (plan : List Int) : Int := if checkB ks ls then (if planB ks ls plan then 0 else 1) else 100
theorem range_all {n : Nat} {p : Nat → Bool} (h : ∀ j, j < n → p j = true) : (List.range n).all p = true := by
  rw [List.all_eq_true]; intro x hx; exact h x (List.mem_range.1 hx)
theorem range_no {n k : Nat} {p : Nat → Bool} (hk : k < n) (h : p k = false) : (List.range n).all p = false := by
  rw [← Bool.not_eq_true, List.all_eq_true]
  intro h2
  have := h2 k (List.mem_range.2 hk)
  rw [h] at this; cases this
theorem chkE_ne (ks : List St) (ls : List Ln) : decide (chkE ks ls = 0) = checkB ks ls := by
  unfold chkE; cases checkB ks ls <;> rfl
theorem checked_pure (ks : List St) (ls : List Ln) (plan : List Int) (hk : ks.length ≤ 9223372036854775807) (hl : ls.length ≤ 9223372036854775807) (hp : plan.length ≤ 9223372036854775807) : Pure Try.prog 59 [storA ks ls, .ints plan] (.int (chk2E ks ls plan)) := by
  have hck := check_pure ks ls hk hl
  cases h1 : checkB ks ls with
  | false =>
    have e : chkE ks ls = 100 := by simp [chkE, h1]
    rw [e] at hck
    (refine Spec.of_body Try.func59 rfl (by rw [Try.ntmps59]; simp) 0 (by simp) ?_; rw [Try.results59, Try.ntmps59]; simp only [entry, zipArgs, Nat.reduceAdd])
    repeat (first | apply Wp.seq | apply Wp.block | (apply Run.next; (simp only [push_cast, seval] <;> (try simp (disch := omega) only [wI, wU, wC]) <;> exact rfl); (focus ((try simp only [push_cast, seval]) <;> exact sT))) | ((first | apply Run.nil | apply Wp.skip); dsimp only [sQ, tQ, bQ]) | (apply Wp.run; (dsimp only [List.map] <;> exact rfl); exact rfl) | (apply Wp.exit; dsimp only [sQ, tQ, bQ]; simp only [reduceIte]))
    (apply Run.pureP; (simp only [push_cast, seval] <;> (try simp (disch := omega) only [wI, wU, wC]) <;> exact rfl); (exact (Enters.of Try.func28 rfl rfl)); (exact hck); (focus (simp only [push_cast, seval] <;> first | trivial | assumption | (refine ⟨?_, ?_⟩ <;> assumption) | (simp; done))); (try dsimp only [putA, optG]))
    repeat (first | apply Wp.seq | apply Wp.block | (apply Run.next; (simp only [push_cast, seval] <;> (try simp (disch := omega) only [wI, wU, wC]) <;> exact rfl); (focus ((try simp only [push_cast, seval]) <;> exact sT))) | ((first | apply Run.nil | apply Wp.skip); dsimp only [sQ, tQ, bQ]) | (apply Wp.run; (dsimp only [List.map] <;> exact rfl); exact rfl) | (apply Wp.exit; dsimp only [sQ, tQ, bQ]; simp only [reduceIte]) | (apply Run.gtrue; (simp only [push_cast, seval] <;> (try simp (disch := omega) only [wI, wU, wC]) <;> exact rfl); (simp only [push_cast, seval] <;> (try simp (disch := omega) only [wI, wU, wC]) <;> exact rfl)) | (apply Run.gfalse (.bool false); (simp only [push_cast, seval] <;> (try simp (disch := omega) only [wI, wU, wC]) <;> exact rfl); dsimp only [S.put, optG]) | (apply Wp.condT; (simp only [push_cast, seval] <;> (try simp (disch := omega) only [wI, wU, wC]) <;> exact rfl)) | (apply Wp.condF; (simp only [push_cast, seval] <;> (try simp (disch := omega) only [wI, wU, wC]) <;> exact rfl)))
    (apply Wp.ret; (try dsimp only [sQ, tQ, bQ]); apply leave0; exact rfl; (simp only [push_cast, seval] <;> (try simp (disch := omega) only [wI, wU, wC]) <;> exact rfl); all_goals (try simp only [push_cast, seval]); (try rfl))
    simp [chk2E, h1]
  | true =>
    have e : chkE ks ls = 0 := by simp [chkE, h1]
    rw [e] at hck
    have hv := checkB_ok h1
    have hl20 := hv.l20
    (refine Spec.of_body Try.func59 rfl (by rw [Try.ntmps59]; simp) 0 (by simp) ?_; rw [Try.results59, Try.ntmps59]; simp only [entry, zipArgs, Nat.reduceAdd])
    repeat (first | apply Wp.seq | apply Wp.block | (apply Run.next; (simp only [push_cast, seval] <;> (try simp (disch := omega) only [wI, wU, wC]) <;> exact rfl); (focus ((try simp only [push_cast, seval]) <;> exact sT))) | ((first | apply Run.nil | apply Wp.skip); dsimp only [sQ, tQ, bQ]) | (apply Wp.run; (dsimp only [List.map] <;> exact rfl); exact rfl) | (apply Wp.exit; dsimp only [sQ, tQ, bQ]; simp only [reduceIte]))
    (apply Run.pureP; (simp only [push_cast, seval] <;> (try simp (disch := omega) only [wI, wU, wC]) <;> exact rfl); (exact (Enters.of Try.func28 rfl rfl)); (exact hck); (focus (simp only [push_cast, seval] <;> first | trivial | assumption | (refine ⟨?_, ?_⟩ <;> assumption) | (simp; done))); (try dsimp only [putA, optG]))
    repeat (first | apply Wp.seq | apply Wp.block | (apply Run.next; (simp only [push_cast, seval] <;> (try simp (disch := omega) only [wI, wU, wC]) <;> exact rfl); (focus ((try simp only [push_cast, seval]) <;> exact sT))) | ((first | apply Run.nil | apply Wp.skip); dsimp only [sQ, tQ, bQ]) | (apply Wp.run; (dsimp only [List.map] <;> exact rfl); exact rfl) | (apply Wp.exit; dsimp only [sQ, tQ, bQ]; simp only [reduceIte]) | (apply Run.gtrue; (simp only [push_cast, seval] <;> (try simp (disch := omega) only [wI, wU, wC]) <;> exact rfl); (simp only [push_cast, seval] <;> (try simp (disch := omega) only [wI, wU, wC]) <;> exact rfl)) | (apply Run.gfalse (.bool false); (simp only [push_cast, seval] <;> (try simp (disch := omega) only [wI, wU, wC]) <;> exact rfl); dsimp only [S.put, optG]) | (apply Wp.condT; (simp only [push_cast, seval] <;> (try simp (disch := omega) only [wI, wU, wC]) <;> exact rfl)) | (apply Wp.condF; (simp only [push_cast, seval] <;> (try simp (disch := omega) only [wI, wU, wC]) <;> exact rfl)))
    (apply Wp.cond; (simp only [push_cast, seval] <;> (try simp (disch := omega) only [wI, wU, wC]) <;> exact rfl))
    · intro h2
      repeat (first | apply Wp.seq | apply Wp.block | (apply Run.next; (simp only [push_cast, seval] <;> (try simp (disch := omega) only [wI, wU, wC]) <;> exact rfl); (focus ((try simp only [push_cast, seval]) <;> exact sT))) | ((first | apply Run.nil | apply Wp.skip); dsimp only [sQ, tQ, bQ]) | (apply Wp.run; (dsimp only [List.map] <;> exact rfl); exact rfl) | (apply Wp.exit; dsimp only [sQ, tQ, bQ]; simp only [reduceIte]))
      (apply Wp.ret; (try dsimp only [sQ, tQ, bQ]); apply leave0; exact rfl; (simp only [push_cast, seval] <;> (try simp (disch := omega) only [wI, wU, wC]) <;> exact rfl); all_goals (try simp only [push_cast, seval]); (try rfl))
      have h3 : ¬ plan.length = ls.length := by simp at h2; omega
      simp [chk2E, h1, planB, h3]
    · intro h2
      have h3 : plan.length = ls.length := by simp at h2; omega
      repeat (first | apply Wp.seq | apply Wp.block | (apply Run.next; (simp only [push_cast, seval] <;> (try simp (disch := omega) only [wI, wU, wC]) <;> exact rfl); (focus ((try simp only [push_cast, seval]) <;> exact sT))) | ((first | apply Run.nil | apply Wp.skip); dsimp only [sQ, tQ, bQ]) | (apply Wp.run; (dsimp only [List.map] <;> exact rfl); exact rfl) | (apply Wp.exit; dsimp only [sQ, tQ, bQ]; simp only [reduceIte]))
      refine Wp.loop (fun k : Nat => { t := [(1, .ints plan), (2, .optr 0 0 0 0), (19, .ints plan), (20, .int plan.length), (21, .int k)], m := [⟨0, .row 2 [storA ks ls]⟩], n := 41 }) (fun k => k ≤ plan.length ∧ ∀ j, j < k → plB ks ls plan j = true) (fun k => plan.length - k) 0 ?_ ?_ ?_
      · (refine Le.of ?_ ?_ rfl rfl <;> (try simp only [push_cast, seval]) <;> (try (with_reducible rfl)))
      · simp
      · rintro k ⟨hk1, hk2⟩
        repeat (first | apply Wp.seq | apply Wp.block | (apply Run.next; (simp only [push_cast, seval] <;> (try simp (disch := omega) only [wI, wU, wC]) <;> exact rfl); (focus ((try simp only [push_cast, seval]) <;> exact sT))) | ((first | apply Run.nil | apply Wp.skip); dsimp only [sQ, tQ, bQ]) | (apply Wp.run; (dsimp only [List.map] <;> exact rfl); exact rfl) | (apply Wp.exit; dsimp only [sQ, tQ, bQ]; simp only [reduceIte]))
        (apply Wp.cond; (simp only [push_cast, seval] <;> (try simp (disch := omega) only [wI, wU, wC]) <;> exact rfl))
        · (intro hc; try simp only [decide_eq_true_eq, decide_eq_false_iff_not, Bool.and_eq_true, Bool.or_eq_true, Bool.not_eq_true, Bool.not_eq_false, Bool.not_eq_true', Bool.not_eq_false', Bool.and_eq_false_iff, Bool.or_eq_false_iff, Int.not_lt, Int.not_le, Int.ofNat_lt, Int.ofNat_le] at hc)
          have hlk := hv.ln k (by omega)
          have hsk := hv.st (ls.getD k ln0).kind.toNat (by omega)
          have hpl : plB ks ls plan k = wi (plan.getD k 0) (-1) ((ks.getD (ls.getD k ln0).kind.toNat st0).items - 1) := rfl
          have hit := item_pure hv (ls.getD k ln0).kind (plan.getD k 0) (by omega)
          generalize hx : ls.getD k ln0 = x at hlk hsk hpl hit
          generalize hn : plan.getD k 0 = n at hpl hit
          generalize hy : (ks.getD x.kind.toNat st0).items = y at hsk hpl hit
          repeat (first | apply Wp.seq | apply Wp.block | (apply Run.next; (simp only [push_cast, seval, hx, hn, h3] <;> (try simp (disch := omega) only [wI, wU, wC]) <;> exact rfl); (focus ((try simp only [push_cast, seval, hx, hn, h3]) <;> exact sT))) | ((first | apply Run.nil | apply Wp.skip); dsimp only [sQ, tQ, bQ]) | (apply Wp.run; (dsimp only [List.map] <;> exact rfl); exact rfl) | (apply Wp.exit; dsimp only [sQ, tQ, bQ]; simp only [reduceIte]))
          (apply Wp.runD 14 mixed; (dsimp only [List.map] <;> exact rfl); exact rfl; kernel_rfl; (dsimp only [List.take] <;> exact rfl); (dsimp only [List.drop] <;> exact rfl); (((repeat (apply Abn.next; (simp only [push_cast, seval, hx, hn, h3] <;> (try simp (disch := omega) only [wI, wU, wC]) <;> exact rfl); (focus ((try simp only [push_cast, seval, hx, hn, h3]) <;> exact sT)))); (apply Abn.pureP; (simp only [push_cast, seval, hx, hn, h3] <;> (try simp (disch := omega) only [wI, wU, wC]) <;> exact rfl); (exact (Enters.of Try.func73 rfl rfl)); (exact hit); (focus (simp only [push_cast, seval, hx, hn, h3] <;> first | trivial | assumption | (refine ⟨?_, ?_⟩ <;> assumption) | (simp; done))); (try dsimp only [putA, optG])); (repeat (apply Abn.next; (simp only [push_cast, seval, hx, hn, h3] <;> (try simp (disch := omega) only [wI, wU, wC]) <;> exact rfl); (focus ((try simp only [push_cast, seval, hx, hn, h3]) <;> exact sT))))); exact Abn.nil))
          repeat (first | apply Wp.seq | apply Wp.block | (apply Run.next; (simp only [push_cast, seval, hx, hn, h3] <;> (try simp (disch := omega) only [wI, wU, wC]) <;> exact rfl); (focus ((try simp only [push_cast, seval, hx, hn, h3]) <;> exact sT))) | ((first | apply Run.nil | apply Wp.skip); dsimp only [sQ, tQ, bQ]) | (apply Wp.run; (dsimp only [List.map] <;> exact rfl); exact rfl) | (apply Wp.exit; dsimp only [sQ, tQ, bQ]; simp only [reduceIte]))
          have e2 : (!decide (n = -1) && !wi n 0 (y - 1)) = !wi n (-1) (y - 1) := by
            rw [Bool.eq_iff_iff]; simp only [wi, Bool.and_eq_true, Bool.not_eq_true', decide_eq_false_iff_not, Bool.and_eq_false_iff]; omega
          (apply Wp.cond; (simp only [push_cast, seval, hx, hn, h3] <;> (try simp (disch := omega) only [wI, wU, wC]) <;> exact rfl))
          · intro h4
            repeat (first | apply Wp.seq | apply Wp.block | (apply Run.next; (simp only [push_cast, seval, hx, hn, h3] <;> (try simp (disch := omega) only [wI, wU, wC]) <;> exact rfl); (focus ((try simp only [push_cast, seval, hx, hn, h3]) <;> exact sT))) | ((first | apply Run.nil | apply Wp.skip); dsimp only [sQ, tQ, bQ]) | (apply Wp.run; (dsimp only [List.map] <;> exact rfl); exact rfl) | (apply Wp.exit; dsimp only [sQ, tQ, bQ]; simp only [reduceIte]))
            (apply Wp.ret; (try dsimp only [sQ, tQ, bQ]); apply leave0; exact rfl; (simp only [push_cast, seval, hx, hn, h3] <;> (try simp (disch := omega) only [wI, wU, wC]) <;> exact rfl); all_goals (try simp only [push_cast, seval, hx, hn, h3]); (try rfl))
            rw [e2, ← hpl, Bool.not_eq_true'] at h4
            simp [chk2E, h1, planB, range_no hc h4]
          · intro h4
            rw [e2, ← hpl, Bool.not_eq_false'] at h4
            repeat (first | apply Wp.seq | apply Wp.block | (apply Run.next; (simp only [push_cast, seval, hx, hn, h3] <;> (try simp (disch := omega) only [wI, wU, wC]) <;> exact rfl); (focus ((try simp only [push_cast, seval, hx, hn, h3]) <;> exact sT))) | ((first | apply Run.nil | apply Wp.skip); dsimp only [sQ, tQ, bQ]) | (apply Wp.run; (dsimp only [List.map] <;> exact rfl); exact rfl) | (apply Wp.exit; dsimp only [sQ, tQ, bQ]; simp only [reduceIte]))
            refine ⟨k + 1, ?_, ⟨by omega, fun j hj => ?_⟩, by omega⟩
            · (refine Le.of ?_ ?_ rfl rfl <;> (try simp only [push_cast, seval, hx, hn, h3]) <;> (try (with_reducible rfl)))
            · by_cases hjk : j = k
              · subst hjk; exact h4
              · exact hk2 j (by omega)
        · (intro hc; try simp only [decide_eq_true_eq, decide_eq_false_iff_not, Bool.and_eq_true, Bool.or_eq_true, Bool.not_eq_true, Bool.not_eq_false, Bool.not_eq_true', Bool.not_eq_false', Bool.and_eq_false_iff, Bool.or_eq_false_iff, Int.not_lt, Int.not_le, Int.ofNat_lt, Int.ofNat_le] at hc)
          repeat (first | apply Wp.seq | apply Wp.block | (apply Run.next; (simp only [push_cast, seval] <;> (try simp (disch := omega) only [wI, wU, wC]) <;> exact rfl); (focus ((try simp only [push_cast, seval]) <;> exact sT))) | ((first | apply Run.nil | apply Wp.skip); dsimp only [sQ, tQ, bQ]) | (apply Wp.run; (dsimp only [List.map] <;> exact rfl); exact rfl) | (apply Wp.exit; dsimp only [sQ, tQ, bQ]; simp only [reduceIte]))
          (apply Wp.ret; (try dsimp only [sQ, tQ, bQ]); apply leave0; exact rfl; (simp only [push_cast, seval] <;> (try simp (disch := omega) only [wI, wU, wC]) <;> exact rfl); all_goals (try simp only [push_cast, seval]); (try rfl))
          have h5 : (List.range plan.length).all (plB ks ls plan) = true := range_all fun j hj => hk2 j (by omega)
          rw [chk2E, if_pos h1, planB, h5]
          simp [h3]
end Go.Proofs.Try
set_option maxHeartbeats 8000000
namespace Go.Proofs.Try
open Go.Vg

theorem chk2E_zero {ks : List St} {ls : List Ln} {plan : List Int} (h : chk2E ks ls plan = 0) : SV ks ls ∧ plan.length = ls.length ∧ ∀ i, i < ls.length → plB ks ls plan i = true := by
  unfold chk2E at h
  split at h
  · rename_i h1
    split at h
    · rename_i h2
      simp only [planB, Bool.and_eq_true, decide_eq_true_eq, List.all_eq_true, List.mem_range] at h2
      exact ⟨checkB_ok h1, h2.1, fun i hi => h2.2 i (by omega)⟩
    · cases h
  · cases h
end Go.Proofs.Try
set_option maxHeartbeats 8000000
namespace Go.Proofs.Try
open Go.Vg

/-! a bench in memory -/
def lentR (N : Nat) : Nat → List (Nat × List Int) → List AV
  | _, [] => []
  | j, t :: T => .osl (N + j) t.1 0 t.2.length :: lentR N (j + 1) T
def lentE (t : Nat × List Int) : Ent := ⟨t.1, .row 1 (t.2.map AV.int)⟩
abbrev benR (N : Nat) (ks : List St) (ls : List Ln) (life : Int) (L : List Int) (vi : Nat) (I W : List Int) (T : List (Nat × List Int)) : AV :=
  .agg [.lst 2 (ks.map stA), .lst 5 (ls.map lnA), .int life, .osl (N + 5) L.length 0 L.length, .osl (N + 6) vi 0 I.length, .osl (N + 1) 1 0 W.length, .osl (N + 2) 1 0 T.length]
abbrev blk (N : Nat) (ks : List St) (ls : List Ln) (e0 e4 : Ent) (life : Int) (L : List Int) (vi : Nat) (I W : List Int) (T : List (Nat × List Int)) (G : Mem) : Mem :=
  e0 :: ⟨1, .row 1 (W.map AV.int)⟩ :: ⟨1, .row 1 (lentR N 7 T)⟩ :: ⟨1, .row 7 [benR N ks ls life L vi I W T]⟩ :: e4 :: ⟨L.length, .row 1 (L.map AV.int)⟩ :: ⟨vi, .row 1 (I.map AV.int)⟩ :: (T.map lentE ++ G)
theorem lentR_len (N : Nat) : ∀ (T : List (Nat × List Int)) (j : Nat), (lentR N j T).length = T.length
  | [], _ => rfl
  | _ :: T, j => by simp [lentR, lentR_len N T]
theorem adR_lent (n : Nat) : ∀ (m j a b : Nat), a ≤ n + j → n + j + m ≤ b → AdR a b (List.replicate m .emp) (lentR n j (List.replicate m (0, [])))
  | 0, _, _, _, _, _ => trivial
  | m + 1, j, a, b, h1, h2 => by
    rw [List.replicate_succ, List.replicate_succ]
    exact ⟨.inl (.inr ⟨rfl, n + j, h1, by omega, rfl⟩), adR_lent n m (j + 1) a b (by omega) (by omega)⟩
def loanP (ls : List Ln) (kind : Int) (k : Nat) : List Int := ((List.range k).filter fun i => decide ((ls.getD i ln0).kind = kind)).map fun i : Nat => (i : Int)
theorem loanP_succ (ls : List Ln) (kind : Int) (k : Nat) : loanP ls kind (k + 1) = if decide ((ls.getD k ln0).kind = kind) = true then loanP ls kind k ++ [(k : Int)] else loanP ls kind k := by
  unfold loanP; rw [List.range_succ, List.filter_append, List.map_append]
  by_cases h : decide ((ls.getD k ln0).kind = kind) = true
  · rw [if_pos h, List.filter_cons, if_pos h]; rfl
  · rw [if_neg h, List.filter_cons, if_neg h]; simp
theorem loanP_len (ls : List Ln) (kind : Int) (k : Nat) : (loanP ls kind k).length ≤ k := by
  unfold loanP; rw [List.length_map]; refine Nat.le_trans (List.length_filter_le _ _) ?_; simp
theorem lentE_rep (n : Nat) : (List.replicate n (0, ([] : List Int))).map lentE = List.replicate n (⟨0, .row 1 []⟩ : Ent) := by
  rw [List.map_replicate]; rfl
def T0 (n : Nat) : List (Nat × List Int) := List.replicate n (0, [])
theorem newBench_spec {ks : List St} {ls : List Ln} (hv : SV ks ls) (kind items : Int) (hk : 0 ≤ kind ∧ kind < ks.length) (hi : 0 ≤ items ∧ items ≤ 100) :
    Go.Vg.Spec Try.prog 67 [storA ks ls, .int kind, .int items] [] (fun x m' => x = .optr 3 1 0 0 ∧ ∃ e4, m' = blk 0 ks ls ⟨0, .row 2 [storA ks ls]⟩ e4 (ks.getD kind.toNat st0).life (loanP ls kind ls.length) 0 [] (List.replicate items.toNat 0) (T0 items.toNat) []) := by
  have hs := hv.st kind.toNat (by omega)
  have hl20 := hv.l20
  generalize hy : ks.getD kind.toNat st0 = y at hs
  (refine Spec.of_bodyA Try.func67 rfl (by rw [Try.ntmps67]; simp) ?_; rw [Try.results67, Try.ntmps67]; simp only [entry, zipArgs, Nat.reduceAdd])
  repeat (first | apply Wp.seq | apply Wp.block | (apply Run.next; (simp only [push_cast, seval, hy] <;> (try simp (disch := omega) only [wI, wU, wC]) <;> exact rfl); (focus ((try simp only [push_cast, seval, hy]) <;> exact sT))) | ((first | apply Run.nil | apply Wp.skip); dsimp only [sQ, tQ, bQ]) | (apply Wp.run; (dsimp only [List.map] <;> exact rfl); exact rfl) | (apply Wp.exit; dsimp only [sQ, tQ, bQ]; simp only [reduceIte]))
  (apply Wp.runV mixed; (dsimp only [List.map] <;> exact rfl); exact rfl; kernel_rfl; (dsimp only; (repeat (first | (apply AbsV.alc; exact rfl; (simp only [push_cast, seval, hy] <;> (try simp (disch := omega) only [wI, wU, wC]) <;> exact rfl); (focus ((try simp only [push_cast, seval, hy]) <;> exact sT)); dsimp only [upd, alcV, List.length_cons, List.length_nil, Nat.reduceAdd]) | (apply AbsV.cons; exact rfl; exact rfl; (simp only [push_cast, seval, hy] <;> (try simp (disch := omega) only [wI, wU, wC]) <;> exact rfl); (focus ((try simp only [push_cast, seval, hy]) <;> exact sT)); dsimp only [upd]))); exact AbsV.nil); dsimp only [List.map, List.cons_append, List.nil_append])
  repeat (first | apply Wp.seq | apply Wp.block | (apply Run.next; (simp only [push_cast, seval, hy] <;> (try simp (disch := omega) only [wI, wU, wC]) <;> exact rfl); (focus ((try simp only [push_cast, seval, hy]) <;> exact sT))) | ((first | apply Run.nil | apply Wp.skip); dsimp only [sQ, tQ, bQ]) | (apply Wp.run; (dsimp only [List.map] <;> exact rfl); exact rfl) | (apply Wp.exit; dsimp only [sQ, tQ, bQ]; simp only [reduceIte]))
  (refine Wp.vacs 1 ?_; (try simp only [List.replicate_succ, List.replicate_zero, List.cons_append, List.nil_append]))
  refine Wp.adoptRow 3 2 (l' := [benR 0 ks ls y.life [] 0 [] (List.replicate items.toNat 0) (T0 items.toNat)]) rfl ⟨.inr ⟨_, _, rfl, rfl, .inl (.inl rfl), .inl (.inl rfl), .inl (.inl rfl), .inl (.inr ⟨rfl, 5, by simp, by simp, rfl⟩), .inl (.inr ⟨rfl, 6, by simp, by simp, rfl⟩), .inl (.inl (by simp)), .inl (.inl (by simp [T0])), trivial⟩, trivial⟩ ?_
  simp only [List.set_cons_succ, List.set_cons_zero, List.replicate_succ, List.replicate_zero, List.cons_append, List.nil_append]
  refine Wp.adoptRow 2 items.toNat (l' := lentR 0 7 (T0 items.toNat)) rfl (adR_lent 0 _ _ _ _ (by simp) (by simp)) ?_
  simp only [List.set_cons_succ, List.set_cons_zero, List.cons_append, List.nil_append]
  rw [← lentE_rep, show List.replicate items.toNat (0, ([] : List Int)) = T0 items.toNat from rfl]
  generalize hB : (T0 items.toNat).map lentE = B
  refine Wp.loop (fun (q : Nat × Nat × Kind) => { t := [(1, .int kind), (3, .optr 0 0 0 0), (7, .optr 3 1 0 0), (24, .lst 5 (ls.map lnA)), (25, .int ls.length), (26, .int q.1)], m := ⟨0, .row 2 [storA ks ls]⟩ :: ⟨1, .row 1 ((List.replicate items.toNat 0).map AV.int)⟩ :: ⟨1, .row 1 (lentR 0 7 (T0 items.toNat))⟩ :: ⟨1, .row 7 [benR 0 ks ls y.life (loanP ls kind q.1) 0 [] (List.replicate items.toNat 0) (T0 items.toNat)]⟩ :: ⟨q.2.1, q.2.2⟩ :: ⟨(loanP ls kind q.1).length, .row 1 ((loanP ls kind q.1).map AV.int)⟩ :: ⟨0, .row 1 []⟩ :: B, n := 47 }) (fun q => q.1 ≤ ls.length) (fun q => ls.length - q.1) (0, 0, .row 1 []) ?_ ?_ ?_
  · (refine Le.of ?_ ?_ rfl rfl <;> (try simp only [push_cast, seval, hy]) <;> (try (with_reducible rfl)))
    rfl
  · simp
  · rintro ⟨k, v, kd⟩ hk1
    simp only at hk1
    have hol := loanP_len ls kind k
    have hos := loanP_succ ls kind k
    generalize hout : loanP ls kind k = out at hol hos
    repeat (first | apply Wp.seq | apply Wp.block | (apply Run.calm; exact rfl; (simp only [push_cast, seval, hy] <;> (try simp (disch := omega) only [wI, wU, wC]) <;> exact rfl); (focus ((try simp only [push_cast, seval, hy]) <;> exact sT))) | ((first | apply Run.nil | apply Wp.skip); dsimp only [sQ, tQ, bQ]) | (apply Wp.run; (dsimp only [List.map] <;> exact rfl); exact rfl) | (apply Wp.exit; dsimp only [sQ, tQ, bQ]; simp only [reduceIte]))
    (apply Wp.cond; (simp only [push_cast, seval, hy] <;> (try simp (disch := omega) only [wI, wU, wC]) <;> exact rfl))
    · (intro hc; try simp only [decide_eq_true_eq, decide_eq_false_iff_not, Bool.and_eq_true, Bool.or_eq_true, Bool.not_eq_true, Bool.not_eq_false, Bool.not_eq_true', Bool.not_eq_false', Bool.and_eq_false_iff, Bool.or_eq_false_iff, Int.not_lt, Int.not_le, Int.ofNat_lt, Int.ofNat_le] at hc)
      generalize hx : ls.getD k ln0 = x at hos
      repeat (first | apply Wp.seq | apply Wp.block | (apply Run.calm; exact rfl; (simp only [push_cast, seval, hy, hx] <;> (try simp (disch := omega) only [wI, wU, wC]) <;> exact rfl); (focus ((try simp only [push_cast, seval, hy, hx]) <;> exact sT))) | ((first | apply Run.nil | apply Wp.skip); dsimp only [sQ, tQ, bQ]) | (apply Wp.run; (dsimp only [List.map] <;> exact rfl); exact rfl) | (apply Wp.exit; dsimp only [sQ, tQ, bQ]; simp only [reduceIte]))
      (apply Run.alcAt 4; (simp only [push_cast, seval, hy, hx] <;> (try simp (disch := omega) only [wI, wU, wC]) <;> exact rfl); (focus ((try simp only [push_cast, seval, hy, hx]) <;> exact sT)); exact rfl; (try simp only [push_cast, seval, hy, hx]))
      repeat (first | apply Wp.seq | apply Wp.block | (apply Run.next; (simp only [push_cast, seval, hy, hx] <;> (try simp (disch := omega) only [wI, wU, wC]) <;> exact rfl); (focus ((try simp only [push_cast, seval, hy, hx]) <;> exact sT))) | ((first | apply Run.nil | apply Wp.skip); dsimp only [sQ, tQ, bQ]) | (apply Wp.run; (dsimp only [List.map] <;> exact rfl); exact rfl) | (apply Wp.exit; dsimp only [sQ, tQ, bQ]; simp only [reduceIte]))
      (apply Wp.cond; (simp only [push_cast, seval, hy, hx] <;> (try simp (disch := omega) only [wI, wU, wC]) <;> exact rfl))
      · intro h2
        rw [if_pos h2] at hos
        repeat (first | apply Wp.seq | apply Wp.block | (apply Run.next; (simp only [push_cast, seval, hy, hx] <;> (try simp (disch := omega) only [wI, wU, wC]) <;> exact rfl); (focus ((try simp only [push_cast, seval, hy, hx]) <;> exact sT))) | ((first | apply Run.nil | apply Wp.skip); dsimp only [sQ, tQ, bQ]) | (apply Wp.run; (dsimp only [List.map] <;> exact rfl); exact rfl) | (apply Wp.exit; dsimp only [sQ, tQ, bQ]; simp only [reduceIte]))
        refine ⟨(k + 1, v + 1, .row 5 [lnA x]), ?_, by simp only; omega, by simp only; omega⟩
        simp only
        rw [hos, List.length_append]
        (refine Le.of ?_ ?_ rfl rfl <;> (try simp only [push_cast, seval, hy, hx]) <;> (try (with_reducible rfl)))
        simp [T0]
      · intro h2
        rw [if_neg (by rw [h2]; simp)] at hos
        repeat (first | apply Wp.seq | apply Wp.block | (apply Run.next; (simp only [push_cast, seval, hy, hx] <;> (try simp (disch := omega) only [wI, wU, wC]) <;> exact rfl); (focus ((try simp only [push_cast, seval, hy, hx]) <;> exact sT))) | ((first | apply Run.nil | apply Wp.skip); dsimp only [sQ, tQ, bQ]) | (apply Wp.run; (dsimp only [List.map] <;> exact rfl); exact rfl) | (apply Wp.exit; dsimp only [sQ, tQ, bQ]; simp only [reduceIte]))
        refine ⟨(k + 1, v + 1, .row 5 [lnA x]), ?_, by simp only; omega, by simp only; omega⟩
        simp only
        rw [hos]
        (refine Le.of ?_ ?_ rfl rfl <;> (try simp only [push_cast, seval, hy, hx]) <;> (try (with_reducible rfl)))
    · (intro hc; try simp only [decide_eq_true_eq, decide_eq_false_iff_not, Bool.and_eq_true, Bool.or_eq_true, Bool.not_eq_true, Bool.not_eq_false, Bool.not_eq_true', Bool.not_eq_false', Bool.and_eq_false_iff, Bool.or_eq_false_iff, Int.not_lt, Int.not_le, Int.ofNat_lt, Int.ofNat_le] at hc)
      obtain rfl : k = ls.length := by omega
      repeat (first | apply Wp.seq | apply Wp.block | (apply Run.next; (simp only [push_cast, seval, hy] <;> (try simp (disch := omega) only [wI, wU, wC]) <;> exact rfl); (focus ((try simp only [push_cast, seval, hy]) <;> exact sT))) | ((first | apply Run.nil | apply Wp.skip); dsimp only [sQ, tQ, bQ]) | (apply Wp.run; (dsimp only [List.map] <;> exact rfl); exact rfl) | (apply Wp.exit; dsimp only [sQ, tQ, bQ]; simp only [reduceIte]))
      (apply Wp.ret; (try dsimp only [sQ, tQ, bQ]); apply leaveA; exact rfl; (simp only [push_cast, seval, hy] <;> (try simp (disch := omega) only [wI, wU, wC]) <;> exact rfl); (focus (first | (simp only [push_cast, seval, hy]; done) | trivial | (simp only [push_cast, seval, hy]; trivial) | (simp; done))); (try simp only [push_cast, seval, hy]))
      refine ⟨⟨v, kd⟩, ?_⟩
      simp only [blk, benR, hB, hout, List.append_nil]; rfl
end Go.Proofs.Try
