/- A part of the proof of BookingChooses: contracts of functions, with plain laws that they need. -/
import Derived.Test.YtbeclidfilbbdaaVgT
import Derived.Test.YtbeclidfilbbdaaVgDm
import Derived.Test.YtbeclidfilbbdaaVgVz
import Derived.Test.YtbeclidfilbbdaaVgK27J
set_option linter.all false
set_option maxHeartbeats 8000000
set_option maxRecDepth 20000
namespace Go.Proofs.Try
open Go.Vg

/-! the document's search for a staff -/
theorem wrong_pure {cs : List Ch} {ms : List Ma} {cake : Int} {ls : List Bk} (h : PW cs ms cake ls) (bg : List Int) (h1 : 1 ≤ bg.length ∧ bg.length ≤ ls.length) (hb : 0 ≤ bg.getD (bg.length - 1) 0 ∧ bg.getD (bg.length - 1) 0 < ms.length) :
    Pure Try.prog 69 [houA cs ms cake, .lst 6 (ls.map bkA), .ints bg] (.bool (wrB cs ms ls bg)) := by
  have hl20 := h.lv.l20
  obtain ⟨k, hk⟩ : ∃ k, bg.length = k + 1 := ⟨bg.length - 1, by omega⟩
  have hxb := h.lv.bv k (by omega)
  have hxt := h.tg k (by omega)
  rw [hk, Nat.add_sub_cancel] at hb
  have hld := rleads_pure h.hv (bg.getD k 0) hb hxb hxt
  have hwr : wrB cs ms ls bg = (!ldB cs ms (bg.getD k 0).toNat (ls.getD k bk0) || (List.range k).any fun i => decide (bg.getD i 0 = bg.getD k 0) && togB cs (ls.getD i bk0) (ls.getD k bk0)) := by
    unfold wrB; rw [hk, Nat.add_sub_cancel]
  generalize hz : bg.getD k 0 = z at hb hld hwr
  generalize hx : ls.getD k bk0 = x at hxb hxt hld hwr
  have hkk : ((bg.length : Int) - 1) = (k : Int) := by omega
  (refine Spec.of_body Try.func69 rfl (by rw [Try.ntmps69]; simp) 0 (by simp) ?_; rw [Try.results69, Try.ntmps69]; simp only [entry, zipArgs, Nat.reduceAdd])
  repeat (first | apply Wp.seq | apply Wp.block | (apply Run.next; (simp only [push_cast, seval, hz, hx, hkk] <;> (try simp (disch := omega) only [wI, wU, wC]) <;> exact rfl); (focus ((try simp only [push_cast, seval, hz, hx, hkk]) <;> exact sT))) | ((first | apply Run.nil | apply Wp.skip); dsimp only [sQ, tQ, bQ]) | (apply Wp.run; (dsimp only [List.map] <;> exact rfl); exact rfl) | (apply Wp.exit; dsimp only [sQ, tQ, bQ]; simp only [reduceIte]))
  (apply Wp.runD 11 mixed; (dsimp only [List.map] <;> exact rfl); exact rfl; kernel_rfl; (dsimp only [List.take] <;> exact rfl); (dsimp only [List.drop] <;> exact rfl); (((repeat (apply Abn.next; (simp only [push_cast, seval, hz, hx, hkk] <;> (try simp (disch := omega) only [wI, wU, wC]) <;> exact rfl); (focus ((try simp only [push_cast, seval, hz, hx, hkk]) <;> exact sT)))); (apply Abn.pureP; (simp only [push_cast, seval, hz, hx, hkk] <;> (try simp (disch := omega) only [wI, wU, wC]) <;> exact rfl); (exact (Enters.of Try.func44 rfl rfl)); (exact hld); (focus (simp only [push_cast, seval, hz, hx, hkk] <;> first | trivial | assumption | (refine ⟨?_, ?_⟩ <;> assumption) | (simp; done))); (try dsimp only [putA, optG])); (repeat (apply Abn.next; (simp only [push_cast, seval, hz, hx, hkk] <;> (try simp (disch := omega) only [wI, wU, wC]) <;> exact rfl); (focus ((try simp only [push_cast, seval, hz, hx, hkk]) <;> exact sT))))); exact Abn.nil))
  repeat (first | apply Wp.seq | apply Wp.block | (apply Run.next; (simp only [push_cast, seval, hz, hx, hkk] <;> (try simp (disch := omega) only [wI, wU, wC]) <;> exact rfl); (focus ((try simp only [push_cast, seval, hz, hx, hkk]) <;> exact sT))) | ((first | apply Run.nil | apply Wp.skip); dsimp only [sQ, tQ, bQ]) | (apply Wp.run; (dsimp only [List.map] <;> exact rfl); exact rfl) | (apply Wp.exit; dsimp only [sQ, tQ, bQ]; simp only [reduceIte]))
  (apply Wp.cond; (simp only [push_cast, seval, hz, hx, hkk] <;> (try simp (disch := omega) only [wI, wU, wC]) <;> exact rfl))
  · intro h4
    repeat (first | apply Wp.seq | apply Wp.block | (apply Run.next; (simp only [push_cast, seval, hz, hx, hkk] <;> (try simp (disch := omega) only [wI, wU, wC]) <;> exact rfl); (focus ((try simp only [push_cast, seval, hz, hx, hkk]) <;> exact sT))) | ((first | apply Run.nil | apply Wp.skip); dsimp only [sQ, tQ, bQ]) | (apply Wp.run; (dsimp only [List.map] <;> exact rfl); exact rfl) | (apply Wp.exit; dsimp only [sQ, tQ, bQ]; simp only [reduceIte]))
    (apply Wp.ret; (try dsimp only [sQ, tQ, bQ]); apply leave0; exact rfl; (simp only [push_cast, seval, hz, hx, hkk] <;> (try simp (disch := omega) only [wI, wU, wC]) <;> exact rfl); all_goals (try simp only [push_cast, seval, hz, hx, hkk]); (try rfl))
    rw [hwr, h4]; rfl
  · intro h4
    repeat (first | apply Wp.seq | apply Wp.block | (apply Run.next; (simp only [push_cast, seval, hz, hx, hkk] <;> (try simp (disch := omega) only [wI, wU, wC]) <;> exact rfl); (focus ((try simp only [push_cast, seval, hz, hx, hkk]) <;> exact sT))) | ((first | apply Run.nil | apply Wp.skip); dsimp only [sQ, tQ, bQ]) | (apply Wp.run; (dsimp only [List.map] <;> exact rfl); exact rfl) | (apply Wp.exit; dsimp only [sQ, tQ, bQ]; simp only [reduceIte]))
    refine Wp.loop (fun (i : Nat) => { t := [(1, .lst 6 (ls.map bkA)), (2, .ints bg), (3, .optr 0 0 0 0), (7, .int k), (8, .int i)], m := [⟨0, .row 3 [houA cs ms cake]⟩], n := 49 }) (fun i => i ≤ k ∧ ∀ j, j < i → (decide (bg.getD j 0 = z) && togB cs (ls.getD j bk0) x) = false) (fun i => k - i) 0 ?_ ?_ ?_
    · (refine Le.of ?_ ?_ rfl rfl <;> (try simp only [push_cast, seval, hz, hx, hkk]) <;> (try (with_reducible rfl)))
      all_goals rfl
    · simp
    · rintro i ⟨hi1, hi2⟩
      repeat (first | apply Wp.seq | apply Wp.block | (apply Run.next; (simp only [push_cast, seval, hz, hx, hkk] <;> (try simp (disch := omega) only [wI, wU, wC]) <;> exact rfl); (focus ((try simp only [push_cast, seval, hz, hx, hkk]) <;> exact sT))) | ((first | apply Run.nil | apply Wp.skip); dsimp only [sQ, tQ, bQ]) | (apply Wp.run; (dsimp only [List.map] <;> exact rfl); exact rfl) | (apply Wp.exit; dsimp only [sQ, tQ, bQ]; simp only [reduceIte]))
      (apply Wp.cond; (simp only [push_cast, seval, hz, hx, hkk] <;> (try simp (disch := omega) only [wI, wU, wC]) <;> exact rfl))
      · intro hc
        simp only [decide_eq_true_eq, Int.ofNat_lt] at hc
        have hyb := h.lv.bv i (by omega)
        have htg := together_pure (ms := ms) h.hv hyb hxb
        generalize hy : ls.getD i bk0 = y at hyb htg
        generalize hu : bg.getD i 0 = u
        repeat (first | apply Wp.seq | apply Wp.block | (apply Run.next; (simp only [push_cast, seval, hz, hx, hkk, hy, hu] <;> (try simp (disch := omega) only [wI, wU, wC]) <;> exact rfl); (focus ((try simp only [push_cast, seval, hz, hx, hkk, hy, hu]) <;> exact sT))) | ((first | apply Run.nil | apply Wp.skip); dsimp only [sQ, tQ, bQ]) | (apply Wp.run; (dsimp only [List.map] <;> exact rfl); exact rfl) | (apply Wp.exit; dsimp only [sQ, tQ, bQ]; simp only [reduceIte]))
        (apply Wp.runD 21 mixed; (dsimp only [List.map] <;> exact rfl); exact rfl; kernel_rfl; (dsimp only [List.take] <;> exact rfl); (dsimp only [List.drop] <;> exact rfl); (((repeat (apply Abn.next; (simp only [push_cast, seval, hz, hx, hkk, hy, hu] <;> (try simp (disch := omega) only [wI, wU, wC]) <;> exact rfl); (focus ((try simp only [push_cast, seval, hz, hx, hkk, hy, hu]) <;> exact sT)))); (apply Abn.pureP; (simp only [push_cast, seval, hz, hx, hkk, hy, hu] <;> (try simp (disch := omega) only [wI, wU, wC]) <;> exact rfl); (exact (Enters.of Try.func45 rfl rfl)); (exact htg); (focus (simp only [push_cast, seval, hz, hx, hkk, hy, hu] <;> first | trivial | assumption | (refine ⟨?_, ?_⟩ <;> assumption) | (simp; done))); (try dsimp only [putA, optG])); (repeat (apply Abn.next; (simp only [push_cast, seval, hz, hx, hkk, hy, hu] <;> (try simp (disch := omega) only [wI, wU, wC]) <;> exact rfl); (focus ((try simp only [push_cast, seval, hz, hx, hkk, hy, hu]) <;> exact sT))))); exact Abn.nil))
        repeat (first | apply Wp.seq | apply Wp.block | (apply Run.next; (simp only [push_cast, seval, hz, hx, hkk, hy, hu] <;> (try simp (disch := omega) only [wI, wU, wC]) <;> exact rfl); (focus ((try simp only [push_cast, seval, hz, hx, hkk, hy, hu]) <;> exact sT))) | ((first | apply Run.nil | apply Wp.skip); dsimp only [sQ, tQ, bQ]) | (apply Wp.run; (dsimp only [List.map] <;> exact rfl); exact rfl) | (apply Wp.exit; dsimp only [sQ, tQ, bQ]; simp only [reduceIte]))
        (apply Wp.cond; (simp only [push_cast, seval, hz, hx, hkk, hy, hu] <;> (try simp (disch := omega) only [wI, wU, wC]) <;> exact rfl))
        · intro h5
          repeat (first | apply Wp.seq | apply Wp.block | (apply Run.next; (simp only [push_cast, seval, hz, hx, hkk, hy, hu] <;> (try simp (disch := omega) only [wI, wU, wC]) <;> exact rfl); (focus ((try simp only [push_cast, seval, hz, hx, hkk, hy, hu]) <;> exact sT))) | ((first | apply Run.nil | apply Wp.skip); dsimp only [sQ, tQ, bQ]) | (apply Wp.run; (dsimp only [List.map] <;> exact rfl); exact rfl) | (apply Wp.exit; dsimp only [sQ, tQ, bQ]; simp only [reduceIte]))
          (apply Wp.ret; (try dsimp only [sQ, tQ, bQ]); apply leave0; exact rfl; (simp only [push_cast, seval, hz, hx, hkk, hy, hu] <;> (try simp (disch := omega) only [wI, wU, wC]) <;> exact rfl); all_goals (try simp only [push_cast, seval, hz, hx, hkk, hy, hu]); (try rfl))
          rw [hwr]
          have : ((List.range k).any fun i => decide (bg.getD i 0 = z) && togB cs (ls.getD i bk0) x) = true := List.any_eq_true.2 ⟨i, List.mem_range.2 hc, by rw [hu, hy]; exact h5⟩
          rw [this, Bool.or_true]
        · intro h5
          repeat (first | apply Wp.seq | apply Wp.block | (apply Run.next; (simp only [push_cast, seval, hz, hx, hkk, hy, hu] <;> (try simp (disch := omega) only [wI, wU, wC]) <;> exact rfl); (focus ((try simp only [push_cast, seval, hz, hx, hkk, hy, hu]) <;> exact sT))) | ((first | apply Run.nil | apply Wp.skip); dsimp only [sQ, tQ, bQ]) | (apply Wp.run; (dsimp only [List.map] <;> exact rfl); exact rfl) | (apply Wp.exit; dsimp only [sQ, tQ, bQ]; simp only [reduceIte]))
          refine ⟨i + 1, ?_, ⟨by omega, fun j hj => ?_⟩, by omega⟩
          · (refine Le.of ?_ ?_ rfl rfl <;> (try simp only [push_cast, seval, hz, hx, hkk, hy, hu]) <;> (try (with_reducible rfl)))
          · by_cases hji : j = i
            · subst hji; rw [hu, hy]; exact h5
            · exact hi2 j (by omega)
      · intro hc
        simp only [decide_eq_false_iff_not, Int.ofNat_lt] at hc
        repeat (first | apply Wp.seq | apply Wp.block | (apply Run.next; (simp only [push_cast, seval, hz, hx, hkk] <;> (try simp (disch := omega) only [wI, wU, wC]) <;> exact rfl); (focus ((try simp only [push_cast, seval, hz, hx, hkk]) <;> exact sT))) | ((first | apply Run.nil | apply Wp.skip); dsimp only [sQ, tQ, bQ]) | (apply Wp.run; (dsimp only [List.map] <;> exact rfl); exact rfl) | (apply Wp.exit; dsimp only [sQ, tQ, bQ]; simp only [reduceIte]))
        (apply Wp.ret; (try dsimp only [sQ, tQ, bQ]); apply leave0; exact rfl; (simp only [push_cast, seval, hz, hx, hkk] <;> (try simp (disch := omega) only [wI, wU, wC]) <;> exact rfl); all_goals (try simp only [push_cast, seval, hz, hx, hkk]); (try rfl))
        rw [hwr, h4, List.any_eq_false.2]
        · rfl
        · intro j hj
          have := hi2 j (by have := List.mem_range.1 hj; omega)
          rw [this]; simp
def stA (s : Option (List Int)) : AV := match s with
  | some l => .ints l
  | none => .emp
theorem stA_ok (s : Option (List Int)) : (stA s).ok 0 := by cases s <;> simp [stA, AV.ok, okL_int]
theorem staff_pure {cs : List Ch} {ms : List Ma} {cake : Int} {ls : List Bk} (h : PW cs ms cake ls) : ∀ (d : Nat) (bg : List Int), bg.length + d = ls.length →
    Pure Try.prog 62 [houA cs ms cake, .lst 6 (ls.map bkA), .ints bg] (.tup [stA (stR cs ms ls d bg), .bool (stR cs ms ls d bg).isSome]) := by
  have hl20 := h.lv.l20
  have hm6 := h.hv.m6
  intro d
  induction d with
  | zero =>
    intro bg hbg
    have he : decide ((bg.length : Int) = (ls.length : Int)) = true := decide_eq_true (by omega)
    (refine Spec.of_body Try.func62 rfl (by rw [Try.ntmps62]; simp) 0 (by simp) ?_; rw [Try.results62, Try.ntmps62]; simp only [entry, zipArgs, Nat.reduceAdd])
    repeat (first | apply Wp.seq | apply Wp.block | (apply Run.next; (simp only [push_cast, seval, he] <;> (try simp (disch := omega) only [wI, wU, wC]) <;> exact rfl); (focus ((try simp only [push_cast, seval, he]) <;> exact sT))) | ((first | apply Run.nil | apply Wp.skip); dsimp only [sQ, tQ, bQ]) | (apply Wp.run; (dsimp only [List.map] <;> exact rfl); exact rfl) | (apply Wp.exit; dsimp only [sQ, tQ, bQ]; simp only [reduceIte]) | (apply Run.gtrue; (simp only [push_cast, seval, he] <;> (try simp (disch := omega) only [wI, wU, wC]) <;> exact rfl); (simp only [push_cast, seval, he] <;> (try simp (disch := omega) only [wI, wU, wC]) <;> exact rfl)) | (apply Run.gfalse (.bool false); (simp only [push_cast, seval, he] <;> (try simp (disch := omega) only [wI, wU, wC]) <;> exact rfl); dsimp only [S.put, optG]) | (apply Wp.condT; (simp only [push_cast, seval, he] <;> (try simp (disch := omega) only [wI, wU, wC]) <;> exact rfl)) | (apply Wp.condF; (simp only [push_cast, seval, he] <;> (try simp (disch := omega) only [wI, wU, wC]) <;> exact rfl)))
    (apply Wp.ret; (try dsimp only [sQ, tQ, bQ]); apply leave0; exact rfl; (simp only [push_cast, seval, he] <;> (try simp (disch := omega) only [wI, wU, wC]) <;> exact rfl); all_goals (try simp only [push_cast, seval, he]); (try rfl))
  | succ d ih =>
    intro bg hbg
    have he : decide ((bg.length : Int) = (ls.length : Int)) = false := decide_eq_false (by omega)
    have hst : stR cs ms ls (d + 1) bg = fsM (fun m => if wrB cs ms ls (bg ++ [(m : Int)]) = true then none else stR cs ms ls d (bg ++ [(m : Int)])) ms.length := rfl
    rw [hst]
    generalize hf : (fun m : Nat => if wrB cs ms ls (bg ++ [(m : Int)]) = true then none else stR cs ms ls d (bg ++ [(m : Int)])) = f
    have hfm : ∀ m : Nat, f m = if wrB cs ms ls (bg ++ [(m : Int)]) = true then none else stR cs ms ls d (bg ++ [(m : Int)]) := fun m => by rw [← hf]
    have hcat : ∀ (J : Mem) (e : Ent), (J ++ [e])[J.length]? = some e := fun J e => by simp
    have hset : ∀ (J : Mem) (e e' : Ent), (J ++ [e]).set J.length e' = J ++ [e'] := fun J e e' => by simp
    (refine Spec.of_body Try.func62 rfl (by rw [Try.ntmps62]; simp) 0 (by simp) ?_; rw [Try.results62, Try.ntmps62]; simp only [entry, zipArgs, Nat.reduceAdd])
    repeat (first | apply Wp.seq | apply Wp.block | (apply Run.next; (simp only [push_cast, seval, he, hcat, hset] <;> (try simp (disch := omega) only [wI, wU, wC]) <;> exact rfl); (focus ((try simp only [push_cast, seval, he, hcat, hset]) <;> exact sT))) | ((first | apply Run.nil | apply Wp.skip); dsimp only [sQ, tQ, bQ]) | (apply Wp.run; (dsimp only [List.map] <;> exact rfl); exact rfl) | (apply Wp.exit; dsimp only [sQ, tQ, bQ]; simp only [reduceIte]) | (apply Run.gtrue; (simp only [push_cast, seval, he, hcat, hset] <;> (try simp (disch := omega) only [wI, wU, wC]) <;> exact rfl); (simp only [push_cast, seval, he, hcat, hset] <;> (try simp (disch := omega) only [wI, wU, wC]) <;> exact rfl)) | (apply Run.gfalse (.bool false); (simp only [push_cast, seval, he, hcat, hset] <;> (try simp (disch := omega) only [wI, wU, wC]) <;> exact rfl); dsimp only [S.put, optG]) | (apply Wp.condT; (simp only [push_cast, seval, he, hcat, hset] <;> (try simp (disch := omega) only [wI, wU, wC]) <;> exact rfl)) | (apply Wp.condF; (simp only [push_cast, seval, he, hcat, hset] <;> (try simp (disch := omega) only [wI, wU, wC]) <;> exact rfl)))
    refine Wp.loop (fun (q : Nat × Mem) => { t := [(1, .lst 6 (ls.map bkA)), (2, .ints bg), (3, .optr 0 0 0 0), (8, .int q.1)], m := ⟨0, .row 3 [houA cs ms cake]⟩ :: q.2, n := 43 }) (fun q => q.1 ≤ ms.length ∧ ∀ m, m < q.1 → f m = none) (fun q => ms.length - q.1) (0, []) ?_ ?_ ?_
    · (refine Le.of ?_ ?_ rfl rfl <;> (try simp only [push_cast, seval, he, hcat, hset]) <;> (try (with_reducible rfl)))
      all_goals rfl
    · simp
    · rintro ⟨k, J⟩ ⟨hk1, hk2⟩
      simp only at hk1 hk2
      repeat (first | apply Wp.seq | apply Wp.block | (apply Run.next; (simp only [push_cast, seval, he, hcat, hset] <;> (try simp (disch := omega) only [wI, wU, wC]) <;> exact rfl); (focus ((try simp only [push_cast, seval, he, hcat, hset]) <;> exact sT))) | ((first | apply Run.nil | apply Wp.skip); dsimp only [sQ, tQ, bQ]) | (apply Wp.run; (dsimp only [List.map] <;> exact rfl); exact rfl) | (apply Wp.exit; dsimp only [sQ, tQ, bQ]; simp only [reduceIte]))
      (apply Wp.cond; (simp only [push_cast, seval, he, hcat, hset] <;> (try simp (disch := omega) only [wI, wU, wC]) <;> exact rfl))
      · intro hc
        simp only [decide_eq_true_eq, Int.ofNat_lt] at hc
        have hwr := wrong_pure h (bg ++ [(k : Int)]) (by simp; omega) (by
          have : (bg ++ [(k : Int)]).getD ((bg ++ [(k : Int)]).length - 1) 0 = (k : Int) := by simp
          rw [this]; omega)
        have hih := ih (bg ++ [(k : Int)]) (by simp; omega)
        have hfk := hfm k
        have hlb : (bg ++ [(k : Int)]).length = bg.length + 1 := by simp
        have htk : (bg ++ [(k : Int)]).take (bg.length + 1) = bg ++ [(k : Int)] := List.take_of_length_le (by simp)
        generalize hnx : bg ++ [(k : Int)] = nx at hwr hih hfk hlb htk
        repeat (first | apply Wp.seq | apply Wp.block | (apply Run.next; (simp only [push_cast, seval, he, hcat, hset, hnx, hlb, htk] <;> (try simp (disch := omega) only [wI, wU, wC]) <;> exact rfl); (focus ((try simp only [push_cast, seval, he, hcat, hset, hnx, hlb, htk]) <;> exact sT))) | ((first | apply Run.nil | apply Wp.skip); dsimp only [sQ, tQ, bQ]) | (apply Wp.run; (dsimp only [List.map] <;> exact rfl); exact rfl) | (apply Wp.exit; dsimp only [sQ, tQ, bQ]; simp only [reduceIte]))
        (apply Run.pureP; (simp only [push_cast, seval, he, hcat, hset, hnx, hlb, htk] <;> (try simp (disch := omega) only [wI, wU, wC]) <;> exact rfl); (exact (Enters.of Try.func69 rfl rfl)); (exact hwr); (focus (simp only [push_cast, seval, he, hcat, hset, hnx, hlb, htk] <;> first | trivial | assumption | (refine ⟨?_, ?_⟩ <;> assumption) | (simp; done))); (try dsimp only [putA, optG]))
        repeat (first | apply Wp.seq | apply Wp.block | (apply Run.next; (simp only [push_cast, seval, he, hcat, hset, hnx, hlb, htk] <;> (try simp (disch := omega) only [wI, wU, wC]) <;> exact rfl); (focus ((try simp only [push_cast, seval, he, hcat, hset, hnx, hlb, htk]) <;> exact sT))) | ((first | apply Run.nil | apply Wp.skip); dsimp only [sQ, tQ, bQ]) | (apply Wp.run; (dsimp only [List.map] <;> exact rfl); exact rfl) | (apply Wp.exit; dsimp only [sQ, tQ, bQ]; simp only [reduceIte]))
        (apply Wp.cond; (simp only [push_cast, seval, he, hcat, hset, hnx, hlb, htk] <;> (try simp (disch := omega) only [wI, wU, wC]) <;> exact rfl))
        · intro h4
          rw [h4, if_pos rfl] at hfk
          repeat (first | apply Wp.seq | apply Wp.block | (apply Run.next; (simp only [push_cast, seval, he, hcat, hset, hnx, hlb, htk] <;> (try simp (disch := omega) only [wI, wU, wC]) <;> exact rfl); (focus ((try simp only [push_cast, seval, he, hcat, hset, hnx, hlb, htk]) <;> exact sT))) | ((first | apply Run.nil | apply Wp.skip); dsimp only [sQ, tQ, bQ]) | (apply Wp.run; (dsimp only [List.map] <;> exact rfl); exact rfl) | (apply Wp.exit; dsimp only [sQ, tQ, bQ]; simp only [reduceIte]))
          refine ⟨(k + 1, J ++ [⟨1, .row 1 (nx.map AV.int)⟩]), ?_, ⟨by simp only; omega, fun m hm => ?_⟩, by simp only; omega⟩
          · (refine Le.of ?_ ?_ rfl rfl <;> (try simp only [push_cast, seval, he, hcat, hset, hnx, hlb, htk]) <;> (try (with_reducible rfl)))
          · simp only at hm
            by_cases hmk : m = k
            · subst hmk; exact hfk
            · exact hk2 m (by omega)
        · intro h4
          rw [h4, if_neg (by simp)] at hfk
          (apply Wp.freeze 9; (simp only [push_cast, seval, he, hcat, hset, hnx, hlb, htk] <;> (try simp (disch := omega) only [wI, wU, wC]) <;> exact rfl); (simp only [push_cast, seval, he, hcat, hset, hnx, hlb, htk] <;> (try simp (disch := omega) only [wI, wU, wC]) <;> exact rfl); (focus (try simp only [push_cast, seval, he, hcat, hset, hnx, hlb, htk]); (try (exact sT))); (focus (exact sT)))
          cases hs : stR cs ms ls d nx with
          | some s =>
            rw [hs] at hih hfk
            simp only [stA, Option.isSome_some] at hih
            repeat (first | apply Wp.seq | apply Wp.block | (apply Run.next; (simp only [push_cast, seval, he, hcat, hset, hnx, hlb, htk] <;> (try simp (disch := omega) only [wI, wU, wC]) <;> exact rfl); (focus ((try simp only [push_cast, seval, he, hcat, hset, hnx, hlb, htk]) <;> exact sT))) | ((first | apply Run.nil | apply Wp.skip); dsimp only [sQ, tQ, bQ]) | (apply Wp.run; (dsimp only [List.map] <;> exact rfl); exact rfl) | (apply Wp.exit; dsimp only [sQ, tQ, bQ]; simp only [reduceIte]) | (apply Run.gtrue; (simp only [push_cast, seval, he, hcat, hset, hnx, hlb, htk] <;> (try simp (disch := omega) only [wI, wU, wC]) <;> exact rfl); (simp only [push_cast, seval, he, hcat, hset, hnx, hlb, htk] <;> (try simp (disch := omega) only [wI, wU, wC]) <;> exact rfl)) | (apply Run.gfalse (.bool false); (simp only [push_cast, seval, he, hcat, hset, hnx, hlb, htk] <;> (try simp (disch := omega) only [wI, wU, wC]) <;> exact rfl); dsimp only [S.put, optG]) | (apply Wp.condT; (simp only [push_cast, seval, he, hcat, hset, hnx, hlb, htk] <;> (try simp (disch := omega) only [wI, wU, wC]) <;> exact rfl)) | (apply Wp.condF; (simp only [push_cast, seval, he, hcat, hset, hnx, hlb, htk] <;> (try simp (disch := omega) only [wI, wU, wC]) <;> exact rfl)))
            (apply Run.pureFP; (simp only [push_cast, seval, he, hcat, hset, hnx, hlb, htk] <;> (try simp (disch := omega) only [wI, wU, wC]) <;> exact rfl); (exact (Enters.of Try.func62 rfl rfl)); (exact hih); (focus (simp only [push_cast, seval, he, hcat, hset, hnx, hlb, htk] <;> first | trivial | assumption | (refine ⟨?_, ?_⟩ <;> assumption) | (simp; done))); (try dsimp only [putA, optG]))
            repeat (first | apply Wp.seq | apply Wp.block | (apply Run.next; (simp only [push_cast, seval, he, hcat, hset, hnx, hlb, htk] <;> (try simp (disch := omega) only [wI, wU, wC]) <;> exact rfl); (focus ((try simp only [push_cast, seval, he, hcat, hset, hnx, hlb, htk]) <;> exact sT))) | ((first | apply Run.nil | apply Wp.skip); dsimp only [sQ, tQ, bQ]) | (apply Wp.run; (dsimp only [List.map] <;> exact rfl); exact rfl) | (apply Wp.exit; dsimp only [sQ, tQ, bQ]; simp only [reduceIte]) | (apply Run.gtrue; (simp only [push_cast, seval, he, hcat, hset, hnx, hlb, htk] <;> (try simp (disch := omega) only [wI, wU, wC]) <;> exact rfl); (simp only [push_cast, seval, he, hcat, hset, hnx, hlb, htk] <;> (try simp (disch := omega) only [wI, wU, wC]) <;> exact rfl)) | (apply Run.gfalse (.bool false); (simp only [push_cast, seval, he, hcat, hset, hnx, hlb, htk] <;> (try simp (disch := omega) only [wI, wU, wC]) <;> exact rfl); dsimp only [S.put, optG]) | (apply Wp.condT; (simp only [push_cast, seval, he, hcat, hset, hnx, hlb, htk] <;> (try simp (disch := omega) only [wI, wU, wC]) <;> exact rfl)) | (apply Wp.condF; (simp only [push_cast, seval, he, hcat, hset, hnx, hlb, htk] <;> (try simp (disch := omega) only [wI, wU, wC]) <;> exact rfl)))
            (apply Wp.ret; (try dsimp only [sQ, tQ, bQ]); apply leave0; exact rfl; (simp only [push_cast, seval, he, hcat, hset, hnx, hlb, htk] <;> (try simp (disch := omega) only [wI, wU, wC]) <;> exact rfl); all_goals (try simp only [push_cast, seval, he, hcat, hset, hnx, hlb, htk]); (try rfl))
            rw [fsM_at hc hk2 hfk]
            rfl
          | none =>
            rw [hs] at hih hfk
            simp only [stA, Option.isSome_none] at hih
            repeat (first | apply Wp.seq | apply Wp.block | (apply Run.next; (simp only [push_cast, seval, he, hcat, hset, hnx, hlb, htk] <;> (try simp (disch := omega) only [wI, wU, wC]) <;> exact rfl); (focus ((try simp only [push_cast, seval, he, hcat, hset, hnx, hlb, htk]) <;> exact sT))) | ((first | apply Run.nil | apply Wp.skip); dsimp only [sQ, tQ, bQ]) | (apply Wp.run; (dsimp only [List.map] <;> exact rfl); exact rfl) | (apply Wp.exit; dsimp only [sQ, tQ, bQ]; simp only [reduceIte]) | (apply Run.gtrue; (simp only [push_cast, seval, he, hcat, hset, hnx, hlb, htk] <;> (try simp (disch := omega) only [wI, wU, wC]) <;> exact rfl); (simp only [push_cast, seval, he, hcat, hset, hnx, hlb, htk] <;> (try simp (disch := omega) only [wI, wU, wC]) <;> exact rfl)) | (apply Run.gfalse (.bool false); (simp only [push_cast, seval, he, hcat, hset, hnx, hlb, htk] <;> (try simp (disch := omega) only [wI, wU, wC]) <;> exact rfl); dsimp only [S.put, optG]) | (apply Wp.condT; (simp only [push_cast, seval, he, hcat, hset, hnx, hlb, htk] <;> (try simp (disch := omega) only [wI, wU, wC]) <;> exact rfl)) | (apply Wp.condF; (simp only [push_cast, seval, he, hcat, hset, hnx, hlb, htk] <;> (try simp (disch := omega) only [wI, wU, wC]) <;> exact rfl)))
            (apply Run.pureFP; (simp only [push_cast, seval, he, hcat, hset, hnx, hlb, htk] <;> (try simp (disch := omega) only [wI, wU, wC]) <;> exact rfl); (exact (Enters.of Try.func62 rfl rfl)); (exact hih); (focus (simp only [push_cast, seval, he, hcat, hset, hnx, hlb, htk] <;> first | trivial | assumption | (refine ⟨?_, ?_⟩ <;> assumption) | (simp; done))); (try dsimp only [putA, optG]))
            repeat (first | apply Wp.seq | apply Wp.block | (apply Run.next; (simp only [push_cast, seval, he, hcat, hset, hnx, hlb, htk] <;> (try simp (disch := omega) only [wI, wU, wC]) <;> exact rfl); (focus ((try simp only [push_cast, seval, he, hcat, hset, hnx, hlb, htk]) <;> exact sT))) | ((first | apply Run.nil | apply Wp.skip); dsimp only [sQ, tQ, bQ]) | (apply Wp.run; (dsimp only [List.map] <;> exact rfl); exact rfl) | (apply Wp.exit; dsimp only [sQ, tQ, bQ]; simp only [reduceIte]) | (apply Run.gtrue; (simp only [push_cast, seval, he, hcat, hset, hnx, hlb, htk] <;> (try simp (disch := omega) only [wI, wU, wC]) <;> exact rfl); (simp only [push_cast, seval, he, hcat, hset, hnx, hlb, htk] <;> (try simp (disch := omega) only [wI, wU, wC]) <;> exact rfl)) | (apply Run.gfalse (.bool false); (simp only [push_cast, seval, he, hcat, hset, hnx, hlb, htk] <;> (try simp (disch := omega) only [wI, wU, wC]) <;> exact rfl); dsimp only [S.put, optG]) | (apply Wp.condT; (simp only [push_cast, seval, he, hcat, hset, hnx, hlb, htk] <;> (try simp (disch := omega) only [wI, wU, wC]) <;> exact rfl)) | (apply Wp.condF; (simp only [push_cast, seval, he, hcat, hset, hnx, hlb, htk] <;> (try simp (disch := omega) only [wI, wU, wC]) <;> exact rfl)))
            refine ⟨(k + 1, J ++ [⟨2, .row 1 []⟩]), ?_, ⟨by simp only; omega, fun m hm => ?_⟩, by simp only; omega⟩
            · (refine Le.of ?_ ?_ rfl rfl <;> (try simp only [push_cast, seval, he, hcat, hset, hnx, hlb, htk]) <;> (try (with_reducible rfl)))
            · simp only at hm
              by_cases hmk : m = k
              · subst hmk; exact hfk
              · exact hk2 m (by omega)
      · intro hc
        simp only [decide_eq_false_iff_not, Int.ofNat_lt] at hc
        obtain rfl : k = ms.length := by omega
        rw [fsM_none.2 hk2]
        repeat (first | apply Wp.seq | apply Wp.block | (apply Run.next; (simp only [push_cast, seval, he, hcat, hset] <;> (try simp (disch := omega) only [wI, wU, wC]) <;> exact rfl); (focus ((try simp only [push_cast, seval, he, hcat, hset]) <;> exact sT))) | ((first | apply Run.nil | apply Wp.skip); dsimp only [sQ, tQ, bQ]) | (apply Wp.run; (dsimp only [List.map] <;> exact rfl); exact rfl) | (apply Wp.exit; dsimp only [sQ, tQ, bQ]; simp only [reduceIte]) | (apply Run.gtrue; (simp only [push_cast, seval, he, hcat, hset] <;> (try simp (disch := omega) only [wI, wU, wC]) <;> exact rfl); (simp only [push_cast, seval, he, hcat, hset] <;> (try simp (disch := omega) only [wI, wU, wC]) <;> exact rfl)) | (apply Run.gfalse (.bool false); (simp only [push_cast, seval, he, hcat, hset] <;> (try simp (disch := omega) only [wI, wU, wC]) <;> exact rfl); dsimp only [S.put, optG]) | (apply Wp.condT; (simp only [push_cast, seval, he, hcat, hset] <;> (try simp (disch := omega) only [wI, wU, wC]) <;> exact rfl)) | (apply Wp.condF; (simp only [push_cast, seval, he, hcat, hset] <;> (try simp (disch := omega) only [wI, wU, wC]) <;> exact rfl)))
        (apply Wp.ret; (try dsimp only [sQ, tQ, bQ]); apply leave0; exact rfl; (simp only [push_cast, seval, he, hcat, hset] <;> (try simp (disch := omega) only [wI, wU, wC]) <;> exact rfl); all_goals (try simp only [push_cast, seval, he, hcat, hset]); (try rfl))
end Go.Proofs.Try
set_option maxHeartbeats 8000000
namespace Go.Proofs.Try
open Go.Vg

theorem okB_r (cs : List Ch) (cake : Int) (ls : List Bk) (i : Nat) : okB cs cake ls i = !(!bkB cs cake (ls.getD i bk0) || !wi (ls.getD i bk0).rival (-1) ((ls.length : Int) - 1) || decide ((ls.getD i bk0).rival = (i : Int)) || (decide (0 ≤ (ls.getD i bk0).rival) && !decide ((ls.getD (ls.getD i bk0).rival.toNat bk0).rival = (i : Int)))) := by
  unfold okB
  generalize (ls.getD i bk0).rival = r
  generalize bkB cs cake (ls.getD i bk0) = p
  generalize decide ((ls.getD r.toNat bk0).rival = (i : Int)) = q
  by_cases h1 : r = -1
  · subst h1
    have e1 : decide ((-1 : Int) = (i : Int)) = false := decide_eq_false (by omega)
    have e2 : wi (-1) (-1) ((ls.length : Int) - 1) = true := by rw [wi_iff]; omega
    rw [e1, e2]; cases p <;> simp
  · have e1 : decide (r = -1) = false := decide_eq_false h1
    rw [e1]
    by_cases h2 : 0 ≤ r
    · have e2 : wi r (-1) ((ls.length : Int) - 1) = wi r 0 ((ls.length : Int) - 1) := by
        unfold wi; rw [decide_eq_true h2, decide_eq_true (show -1 ≤ r by omega)]
      rw [e2, decide_eq_true h2]
      generalize wi r 0 ((ls.length : Int) - 1) = u
      generalize decide (r = (i : Int)) = v
      cases p <;> cases q <;> cases u <;> cases v <;> rfl
    · have e2 : wi r 0 ((ls.length : Int) - 1) = false := by unfold wi; rw [decide_eq_false h2]; rfl
      have e3 : wi r (-1) ((ls.length : Int) - 1) = false := by unfold wi; rw [decide_eq_false (show ¬ -1 ≤ r by omega)]; rfl
      rw [e2, e3]
      cases p <;> cases decide (r = (i : Int)) <;> rfl
theorem rcheck_pure (cs : List Ch) (ms : List Ma) (cake : Int) (ls : List Bk) (hc : cs.length ≤ 9223372036854775807) (hm : ms.length ≤ 9223372036854775807) (hl : ls.length ≤ 9223372036854775807) : Pure Try.prog 26 [houA cs ms cake, .lst 6 (ls.map bkA)] (.int (ckE cs ms cake ls)) := by
  have hho := ckHouse_pure cs ms cake hc hm
  unfold ckE
  cases h1 : hoB cs ms cake with
  | false =>
    rw [h1, if_neg (by simp)] at hho
    rw [if_neg (by simp)]
    (refine Spec.of_body Try.func26 rfl (by rw [Try.ntmps26]; simp) 0 (by simp) ?_; rw [Try.results26, Try.ntmps26]; simp only [entry, zipArgs, Nat.reduceAdd])
    repeat (first | apply Wp.seq | apply Wp.block | (apply Run.next; (simp only [push_cast, seval] <;> (try simp (disch := omega) only [wI, wU, wC]) <;> exact rfl); (focus ((try simp only [push_cast, seval]) <;> exact sT))) | ((first | apply Run.nil | apply Wp.skip); dsimp only [sQ, tQ, bQ]) | (apply Wp.run; (dsimp only [List.map] <;> exact rfl); exact rfl) | (apply Wp.exit; dsimp only [sQ, tQ, bQ]; simp only [reduceIte]))
    (apply Run.pureP; (simp only [push_cast, seval] <;> (try simp (disch := omega) only [wI, wU, wC]) <;> exact rfl); (exact (Enters.of Try.func55 rfl rfl)); (exact hho); (focus (simp only [push_cast, seval] <;> first | trivial | assumption | (refine ⟨?_, ?_⟩ <;> assumption) | (simp; done))); (try dsimp only [putA, optG]))
    repeat (first | apply Wp.seq | apply Wp.block | (apply Run.next; (simp only [push_cast, seval] <;> (try simp (disch := omega) only [wI, wU, wC]) <;> exact rfl); (focus ((try simp only [push_cast, seval]) <;> exact sT))) | ((first | apply Run.nil | apply Wp.skip); dsimp only [sQ, tQ, bQ]) | (apply Wp.run; (dsimp only [List.map] <;> exact rfl); exact rfl) | (apply Wp.exit; dsimp only [sQ, tQ, bQ]; simp only [reduceIte]) | (apply Run.gtrue; (simp only [push_cast, seval] <;> (try simp (disch := omega) only [wI, wU, wC]) <;> exact rfl); (simp only [push_cast, seval] <;> (try simp (disch := omega) only [wI, wU, wC]) <;> exact rfl)) | (apply Run.gfalse (.bool false); (simp only [push_cast, seval] <;> (try simp (disch := omega) only [wI, wU, wC]) <;> exact rfl); dsimp only [S.put, optG]) | (apply Wp.condT; (simp only [push_cast, seval] <;> (try simp (disch := omega) only [wI, wU, wC]) <;> exact rfl)) | (apply Wp.condF; (simp only [push_cast, seval] <;> (try simp (disch := omega) only [wI, wU, wC]) <;> exact rfl)))
    (apply Wp.ret; (try dsimp only [sQ, tQ, bQ]); apply leave0; exact rfl; (simp only [push_cast, seval] <;> (try simp (disch := omega) only [wI, wU, wC]) <;> exact rfl); all_goals (try simp only [push_cast, seval]); (try rfl))
  | true =>
    rw [h1, if_pos rfl] at hho
    rw [if_pos rfl]
    have hv := hoB_ok h1
    (refine Spec.of_body Try.func26 rfl (by rw [Try.ntmps26]; simp) 0 (by simp) ?_; rw [Try.results26, Try.ntmps26]; simp only [entry, zipArgs, Nat.reduceAdd])
    repeat (first | apply Wp.seq | apply Wp.block | (apply Run.next; (simp only [push_cast, seval] <;> (try simp (disch := omega) only [wI, wU, wC]) <;> exact rfl); (focus ((try simp only [push_cast, seval]) <;> exact sT))) | ((first | apply Run.nil | apply Wp.skip); dsimp only [sQ, tQ, bQ]) | (apply Wp.run; (dsimp only [List.map] <;> exact rfl); exact rfl) | (apply Wp.exit; dsimp only [sQ, tQ, bQ]; simp only [reduceIte]))
    (apply Run.pureP; (simp only [push_cast, seval] <;> (try simp (disch := omega) only [wI, wU, wC]) <;> exact rfl); (exact (Enters.of Try.func55 rfl rfl)); (exact hho); (focus (simp only [push_cast, seval] <;> first | trivial | assumption | (refine ⟨?_, ?_⟩ <;> assumption) | (simp; done))); (try dsimp only [putA, optG]))
    repeat (first | apply Wp.seq | apply Wp.block | (apply Run.next; (simp only [push_cast, seval] <;> (try simp (disch := omega) only [wI, wU, wC]) <;> exact rfl); (focus ((try simp only [push_cast, seval]) <;> exact sT))) | ((first | apply Run.nil | apply Wp.skip); dsimp only [sQ, tQ, bQ]) | (apply Wp.run; (dsimp only [List.map] <;> exact rfl); exact rfl) | (apply Wp.exit; dsimp only [sQ, tQ, bQ]; simp only [reduceIte]) | (apply Run.gtrue; (simp only [push_cast, seval] <;> (try simp (disch := omega) only [wI, wU, wC]) <;> exact rfl); (simp only [push_cast, seval] <;> (try simp (disch := omega) only [wI, wU, wC]) <;> exact rfl)) | (apply Run.gfalse (.bool false); (simp only [push_cast, seval] <;> (try simp (disch := omega) only [wI, wU, wC]) <;> exact rfl); dsimp only [S.put, optG]) | (apply Wp.condT; (simp only [push_cast, seval] <;> (try simp (disch := omega) only [wI, wU, wC]) <;> exact rfl)) | (apply Wp.condF; (simp only [push_cast, seval] <;> (try simp (disch := omega) only [wI, wU, wC]) <;> exact rfl)))
    (apply Wp.cond; (simp only [push_cast, seval] <;> (try simp (disch := omega) only [wI, wU, wC]) <;> exact rfl))
    · intro h2
      simp only [decide_eq_true_eq] at h2
      repeat (first | apply Wp.seq | apply Wp.block | (apply Run.next; (simp only [push_cast, seval] <;> (try simp (disch := omega) only [wI, wU, wC]) <;> exact rfl); (focus ((try simp only [push_cast, seval]) <;> exact sT))) | ((first | apply Run.nil | apply Wp.skip); dsimp only [sQ, tQ, bQ]) | (apply Wp.run; (dsimp only [List.map] <;> exact rfl); exact rfl) | (apply Wp.exit; dsimp only [sQ, tQ, bQ]; simp only [reduceIte]))
      (apply Wp.ret; (try dsimp only [sQ, tQ, bQ]); apply leave0; exact rfl; (simp only [push_cast, seval] <;> (try simp (disch := omega) only [wI, wU, wC]) <;> exact rfl); all_goals (try simp only [push_cast, seval]); (try rfl))
      rw [if_neg (by omega)]
    · intro h2
      simp only [decide_eq_false_iff_not, Int.not_lt] at h2
      rw [if_pos (by omega)]
      repeat (first | apply Wp.seq | apply Wp.block | (apply Run.next; (simp only [push_cast, seval] <;> (try simp (disch := omega) only [wI, wU, wC]) <;> exact rfl); (focus ((try simp only [push_cast, seval]) <;> exact sT))) | ((first | apply Run.nil | apply Wp.skip); dsimp only [sQ, tQ, bQ]) | (apply Wp.run; (dsimp only [List.map] <;> exact rfl); exact rfl) | (apply Wp.exit; dsimp only [sQ, tQ, bQ]; simp only [reduceIte]))
      refine Wp.loop (fun (k : Nat) => { t := [(1, .lst 6 (ls.map bkA)), (2, .optr 0 0 0 0), (6, .int k)], m := [⟨0, .row 3 [houA cs ms cake]⟩], n := 60 }) (fun k => k ≤ ls.length ∧ ∀ j, j < k → okB cs cake ls j = true) (fun k => ls.length - k) 0 ?_ ?_ ?_
      · (refine Le.of ?_ ?_ rfl rfl <;> (try simp only [push_cast, seval]) <;> (try (with_reducible rfl)))
        all_goals rfl
      · simp
      · rintro k ⟨hk1, hk2⟩
        repeat (first | apply Wp.seq | apply Wp.block | (apply Run.next; (simp only [push_cast, seval] <;> (try simp (disch := omega) only [wI, wU, wC]) <;> exact rfl); (focus ((try simp only [push_cast, seval]) <;> exact sT))) | ((first | apply Run.nil | apply Wp.skip); dsimp only [sQ, tQ, bQ]) | (apply Wp.run; (dsimp only [List.map] <;> exact rfl); exact rfl) | (apply Wp.exit; dsimp only [sQ, tQ, bQ]; simp only [reduceIte]))
        (apply Wp.cond; (simp only [push_cast, seval] <;> (try simp (disch := omega) only [wI, wU, wC]) <;> exact rfl))
        · intro hc1
          simp only [decide_eq_true_eq, Int.ofNat_lt] at hc1
          have hbo := isBk_pure hv (ls.getD k bk0)
          have hok := okB_r cs cake ls k
          generalize hx : ls.getD k bk0 = x at hbo hok
          generalize hy : ls.getD x.rival.toNat bk0 = y at hok
          repeat (first | apply Wp.seq | apply Wp.block | (apply Run.next; (simp only [push_cast, seval, hx, hy] <;> (try simp (disch := omega) only [wI, wU, wC]) <;> exact rfl); (focus ((try simp only [push_cast, seval, hx, hy]) <;> exact sT))) | ((first | apply Run.nil | apply Wp.skip); dsimp only [sQ, tQ, bQ]) | (apply Wp.run; (dsimp only [List.map] <;> exact rfl); exact rfl) | (apply Wp.exit; dsimp only [sQ, tQ, bQ]; simp only [reduceIte]))
          (apply Wp.runD 33 mixed; (dsimp only [List.map] <;> exact rfl); exact rfl; kernel_rfl; (dsimp only [List.take] <;> exact rfl); (dsimp only [List.drop] <;> exact rfl); (((repeat (apply Abn.next; (simp only [push_cast, seval, hx, hy] <;> (try simp (disch := omega) only [wI, wU, wC]) <;> exact rfl); (focus ((try simp only [push_cast, seval, hx, hy]) <;> exact sT)))); (apply Abn.pureP; (simp only [push_cast, seval, hx, hy] <;> (try simp (disch := omega) only [wI, wU, wC]) <;> exact rfl); (exact (Enters.of Try.func53 rfl rfl)); (exact hbo); (focus (simp only [push_cast, seval, hx, hy] <;> first | trivial | assumption | (refine ⟨?_, ?_⟩ <;> assumption) | (simp; done))); (try dsimp only [putA, optG])); (repeat (apply Abn.next; (simp only [push_cast, seval, hx, hy] <;> (try simp (disch := omega) only [wI, wU, wC]) <;> exact rfl); (focus ((try simp only [push_cast, seval, hx, hy]) <;> exact sT)))); (apply Abn.pureP; (simp only [push_cast, seval, hx, hy] <;> (try simp (disch := omega) only [wI, wU, wC]) <;> exact rfl); (exact (Enters.of Try.func56 rfl rfl)); (exact rwithin_pure _ _ _); (focus (simp only [push_cast, seval, hx, hy] <;> first | trivial | assumption | (refine ⟨?_, ?_⟩ <;> assumption) | (simp; done))); (try dsimp only [putA, optG])); (repeat (apply Abn.next; (simp only [push_cast, seval, hx, hy] <;> (try simp (disch := omega) only [wI, wU, wC]) <;> exact rfl); (focus ((try simp only [push_cast, seval, hx, hy]) <;> exact sT)))); (apply Abn.next; (simp only [push_cast, seval, hx, hy] <;> (try simp (disch := omega) only [wI, wU, wC]) <;> exact rfl); (focus ((try simp only [push_cast, seval, hx, hy]); intro hg; have hg' := hg; simp only [Bool.or_eq_false_iff, Bool.and_eq_true, Bool.not_eq_false', wi_iff, decide_eq_true_eq] at hg'; first | omega | exact ⟨hg, by omega⟩ | (refine ⟨?_, ?_⟩ <;> omega)))); (repeat (apply Abn.next; (simp only [push_cast, seval, hx, hy] <;> (try simp (disch := omega) only [wI, wU, wC]) <;> exact rfl); (focus ((try simp only [push_cast, seval, hx, hy]) <;> exact sT))))); exact Abn.nil))
          repeat (first | apply Wp.seq | apply Wp.block | (apply Run.next; (simp only [push_cast, seval, hx, hy] <;> (try simp (disch := omega) only [wI, wU, wC]) <;> exact rfl); (focus ((try simp only [push_cast, seval, hx, hy]) <;> exact sT))) | ((first | apply Run.nil | apply Wp.skip); dsimp only [sQ, tQ, bQ]) | (apply Wp.run; (dsimp only [List.map] <;> exact rfl); exact rfl) | (apply Wp.exit; dsimp only [sQ, tQ, bQ]; simp only [reduceIte]))
          (apply Wp.cond; (simp only [push_cast, seval, hx, hy] <;> (try simp (disch := omega) only [wI, wU, wC]) <;> exact rfl))
          · intro h4
            have h5 : okB cs cake ls k = false := by rw [hok, h4]; rfl
            repeat (first | apply Wp.seq | apply Wp.block | (apply Run.next; (simp only [push_cast, seval, hx, hy] <;> (try simp (disch := omega) only [wI, wU, wC]) <;> exact rfl); (focus ((try simp only [push_cast, seval, hx, hy]) <;> exact sT))) | ((first | apply Run.nil | apply Wp.skip); dsimp only [sQ, tQ, bQ]) | (apply Wp.run; (dsimp only [List.map] <;> exact rfl); exact rfl) | (apply Wp.exit; dsimp only [sQ, tQ, bQ]; simp only [reduceIte]))
            (apply Wp.ret; (try dsimp only [sQ, tQ, bQ]); apply leave0; exact rfl; (simp only [push_cast, seval, hx, hy] <;> (try simp (disch := omega) only [wI, wU, wC]) <;> exact rfl); all_goals (try simp only [push_cast, seval, hx, hy]); (try rfl))
            rw [if_neg (by rw [range_no hc1 h5]; simp)]
          · intro h4
            have h5 : okB cs cake ls k = true := by rw [hok, h4]; rfl
            repeat (first | apply Wp.seq | apply Wp.block | (apply Run.next; (simp only [push_cast, seval, hx, hy] <;> (try simp (disch := omega) only [wI, wU, wC]) <;> exact rfl); (focus ((try simp only [push_cast, seval, hx, hy]) <;> exact sT))) | ((first | apply Run.nil | apply Wp.skip); dsimp only [sQ, tQ, bQ]) | (apply Wp.run; (dsimp only [List.map] <;> exact rfl); exact rfl) | (apply Wp.exit; dsimp only [sQ, tQ, bQ]; simp only [reduceIte]))
            refine ⟨k + 1, ?_, ⟨by omega, fun j hj => ?_⟩, by omega⟩
            · (refine Le.of ?_ ?_ rfl rfl <;> (try simp only [push_cast, seval, hx, hy]) <;> (try (with_reducible rfl)))
            · by_cases hjk : j = k
              · subst hjk; exact h5
              · exact hk2 j (by omega)
        · intro hc1
          simp only [decide_eq_false_iff_not, Int.ofNat_lt] at hc1
          obtain rfl : k = ls.length := by omega
          repeat (first | apply Wp.seq | apply Wp.block | (apply Run.next; (simp only [push_cast, seval] <;> (try simp (disch := omega) only [wI, wU, wC]) <;> exact rfl); (focus ((try simp only [push_cast, seval]) <;> exact sT))) | ((first | apply Run.nil | apply Wp.skip); dsimp only [sQ, tQ, bQ]) | (apply Wp.run; (dsimp only [List.map] <;> exact rfl); exact rfl) | (apply Wp.exit; dsimp only [sQ, tQ, bQ]; simp only [reduceIte]))
          (apply Wp.ret; (try dsimp only [sQ, tQ, bQ]); apply leave0; exact rfl; (simp only [push_cast, seval] <;> (try simp (disch := omega) only [wI, wU, wC]) <;> exact rfl); all_goals (try simp only [push_cast, seval]); (try rfl))
          rw [if_pos (range_all hk2)]
theorem rsame_pure {cs : List Ch} {ms : List Ma} {cake : Int} (hv : HV cs ms cake) {a b : Bk} (ha : BV cs a) (hb : BV cs b) : Pure Try.prog 95 [houA cs ms cake, bkA a, bkA b] (.bool (sameB cs cake a b)) := by
  have h1 := ends_pure (ms := ms) hv ha
  have h2 := ends_pure (ms := ms) hv hb
  (refine Spec.of_body Try.func95 rfl (by rw [Try.ntmps95]; simp) 0 (by simp) ?_; rw [Try.results95, Try.ntmps95]; simp only [entry, zipArgs, Nat.reduceAdd])
  repeat (first | apply Wp.seq | apply Wp.block | (apply Run.next; (simp only [push_cast, seval] <;> (try simp (disch := omega) only [wI, wU, wC]) <;> exact rfl); (focus ((try simp only [push_cast, seval]) <;> exact sT))) | ((first | apply Run.nil | apply Wp.skip); dsimp only [sQ, tQ, bQ]) | (apply Wp.run; (dsimp only [List.map] <;> exact rfl); exact rfl) | (apply Wp.exit; dsimp only [sQ, tQ, bQ]; simp only [reduceIte]))
  (apply Run.pureP; (simp only [push_cast, seval] <;> (try simp (disch := omega) only [wI, wU, wC]) <;> exact rfl); (exact (Enters.of Try.func29 rfl rfl)); (exact h1); (focus (simp only [push_cast, seval] <;> first | trivial | assumption | (refine ⟨?_, ?_⟩ <;> assumption) | (simp; done))); (try dsimp only [putA, optG]))
  repeat (first | apply Wp.seq | apply Wp.block | (apply Run.next; (simp only [push_cast, seval] <;> (try simp (disch := omega) only [wI, wU, wC]) <;> exact rfl); (focus ((try simp only [push_cast, seval]) <;> exact sT))) | ((first | apply Run.nil | apply Wp.skip); dsimp only [sQ, tQ, bQ]) | (apply Wp.run; (dsimp only [List.map] <;> exact rfl); exact rfl) | (apply Wp.exit; dsimp only [sQ, tQ, bQ]; simp only [reduceIte]))
  (apply Run.pureP; (simp only [push_cast, seval] <;> (try simp (disch := omega) only [wI, wU, wC]) <;> exact rfl); (exact (Enters.of Try.func29 rfl rfl)); (exact h2); (focus (simp only [push_cast, seval] <;> first | trivial | assumption | (refine ⟨?_, ?_⟩ <;> assumption) | (simp; done))); (try dsimp only [putA, optG]))
  repeat (first | apply Wp.seq | apply Wp.block | (apply Run.next; (simp only [push_cast, seval] <;> (try simp (disch := omega) only [wI, wU, wC]) <;> exact rfl); (focus ((try simp only [push_cast, seval]) <;> exact sT))) | ((first | apply Run.nil | apply Wp.skip); dsimp only [sQ, tQ, bQ]) | (apply Wp.run; (dsimp only [List.map] <;> exact rfl); exact rfl) | (apply Wp.exit; dsimp only [sQ, tQ, bQ]; simp only [reduceIte]))
  (apply Wp.ret; (try dsimp only [sQ, tQ, bQ]); apply leave0; exact rfl; (simp only [push_cast, seval] <;> (try simp (disch := omega) only [wI, wU, wC]) <;> exact rfl); all_goals (try simp only [push_cast, seval]); (try rfl))
  unfold sameB
  generalize decide (a.ch = b.ch) = p1
  generalize decide (a.st < endR cs cake b) = p2
  generalize decide (b.st < endR cs cake a) = p3
  cases p1 <;> cases p2 <;> cases p3 <;> rfl
theorem rtaken_pure {cs : List Ch} {ms : List Ma} {cake : Int} {ls : List Bk} (hv : HV cs ms cake) (hl : LV cs ls) : Pure Try.prog 74 [houA cs ms cake, .lst 6 (ls.map bkA)] (.lst 2 ((tkP cs cake ls).map prA)) := by
  have hl20 := hl.l20
  unfold tkP
  generalize hp : tkF cs cake ls = p
  have hpe : ∀ i k, p i k = sameB cs cake (ls.getD i bk0) (ls.getD k bk0) := by subst hp; intro i k; rfl
  have hsu : ∀ i k, i < k → prI p i (k + 1) = if sameB cs cake (ls.getD i bk0) (ls.getD k bk0) = true then prI p i k ++ [((i : Int), (k : Int))] else prI p i k := fun i k h => by rw [prI_succ p h, hpe]
  (refine Spec.of_body Try.func74 rfl (by rw [Try.ntmps74]; simp) 0 (by simp) ?_; rw [Try.results74, Try.ntmps74]; simp only [entry, zipArgs, Nat.reduceAdd])
  repeat (first | apply Wp.seq | apply Wp.block | (apply Run.next; (simp only [push_cast, seval] <;> (try simp (disch := omega) only [wI, wU, wC]) <;> exact rfl); (focus ((try simp only [push_cast, seval]) <;> exact sT))) | ((first | apply Run.nil | apply Wp.skip); dsimp only [sQ, tQ, bQ]) | (apply Wp.run; (dsimp only [List.map] <;> exact rfl); exact rfl) | (apply Wp.exit; dsimp only [sQ, tQ, bQ]; simp only [reduceIte]))
  refine Wp.adopt 5 2 (by (simp only [push_cast, seval] <;> (try simp (disch := omega) only [wI, wU, wC]) <;> exact rfl)) ?_
  refine Wp.loop (fun (i : Nat) => { t := [(1, .lst 6 (ls.map bkA)), (2, .optr 0 0 0 0), (6, .int i), (5, .osl 1 (prP p ls.length i).length 0 (prP p ls.length i).length)], m := [⟨0, .row 3 [houA cs ms cake]⟩, ⟨(prP p ls.length i).length, .row 2 ((prP p ls.length i).map prA)⟩], n := 39 }) (fun i => i ≤ ls.length) (fun i => ls.length - i) 0 ?_ ?_ ?_
  · (refine Le.of ?_ ?_ rfl rfl <;> (try simp only [push_cast, seval]) <;> (try (with_reducible rfl)))
    all_goals rfl
  · simp
  · rintro i hk1
    have hol := prP_len p hl20 i
    have hos : prP p ls.length (i + 1) = prP p ls.length i ++ prI p i ls.length := rfl
    generalize hout : prP p ls.length i = out at hol hos
    repeat (first | apply Wp.seq | apply Wp.block | (apply Run.next; (simp only [push_cast, seval] <;> (try simp (disch := omega) only [wI, wU, wC]) <;> exact rfl); (focus ((try simp only [push_cast, seval]) <;> exact sT))) | ((first | apply Run.nil | apply Wp.skip); dsimp only [sQ, tQ, bQ]) | (apply Wp.run; (dsimp only [List.map] <;> exact rfl); exact rfl) | (apply Wp.exit; dsimp only [sQ, tQ, bQ]; simp only [reduceIte]))
    (apply Wp.cond; (simp only [push_cast, seval] <;> (try simp (disch := omega) only [wI, wU, wC]) <;> exact rfl))
    · intro hck'
      simp only [decide_eq_true_eq, Int.ofNat_lt] at hck'
      have hio := fun k (h : i < k) => hsu i k h
      have hi0 := prI_nil p i (i + 1) (by omega)
      have hxb := hl.bv i hck'
      generalize hx : ls.getD i bk0 = x at hio hxb
      repeat (first | apply Wp.seq | apply Wp.block | (apply Run.next; (simp only [push_cast, seval, hx] <;> (try simp (disch := omega) only [wI, wU, wC]) <;> exact rfl); (focus ((try simp only [push_cast, seval, hx]) <;> exact sT))) | ((first | apply Run.nil | apply Wp.skip); dsimp only [sQ, tQ, bQ]) | (apply Wp.run; (dsimp only [List.map] <;> exact rfl); exact rfl) | (apply Wp.exit; dsimp only [sQ, tQ, bQ]; simp only [reduceIte]))
      refine Wp.loop (fun (k : Nat) => { t := [(1, .lst 6 (ls.map bkA)), (2, .optr 0 0 0 0), (6, .int i), (5, .osl 1 (out ++ prI p i k).length 0 (out ++ prI p i k).length), (7, .int k)], m := [⟨0, .row 3 [houA cs ms cake]⟩, ⟨(out ++ prI p i k).length, .row 2 ((out ++ prI p i k).map prA)⟩], n := 39 }) (fun k => i + 1 ≤ k ∧ k ≤ ls.length) (fun k => ls.length - k) (i + 1) ?_ ?_ ?_
      · rw [hi0, List.append_nil]
        (refine Le.of ?_ ?_ rfl rfl <;> (try simp only [push_cast, seval, hx]) <;> (try (with_reducible rfl)))
        all_goals rfl
      · exact ⟨by omega, by omega⟩
      · rintro k ⟨hk2, hk3⟩
        have hil := prI_len p i k
        have his := hio k hk2
        generalize hinn : prI p i k = inn at hil his
        have hle : (out ++ inn).length ≤ 420 := by rw [List.length_append]; omega
        have hins : out ++ prI p i (k + 1) = if sameB cs cake x (ls.getD k bk0) = true then (out ++ inn) ++ [((i : Int), (k : Int))] else out ++ inn := by rw [his]; split <;> simp
        generalize hoi : out ++ inn = oi at hle hins
        repeat (first | apply Wp.seq | apply Wp.block | (apply Run.next; (simp only [push_cast, seval, hx] <;> (try simp (disch := omega) only [wI, wU, wC]) <;> exact rfl); (focus ((try simp only [push_cast, seval, hx]) <;> exact sT))) | ((first | apply Run.nil | apply Wp.skip); dsimp only [sQ, tQ, bQ]) | (apply Wp.run; (dsimp only [List.map] <;> exact rfl); exact rfl) | (apply Wp.exit; dsimp only [sQ, tQ, bQ]; simp only [reduceIte]))
        (apply Wp.cond; (simp only [push_cast, seval, hx] <;> (try simp (disch := omega) only [wI, wU, wC]) <;> exact rfl))
        · intro hci
          simp only [decide_eq_true_eq, Int.ofNat_lt] at hci
          have hzb := hl.bv k hci
          generalize hz : ls.getD k bk0 = z at hins hzb
          have hsm := rsame_pure (ms := ms) hv hxb hzb
          repeat (first | apply Wp.seq | apply Wp.block | (apply Run.next; (simp only [push_cast, seval, hx, hz] <;> (try simp (disch := omega) only [wI, wU, wC]) <;> exact rfl); (focus ((try simp only [push_cast, seval, hx, hz]) <;> exact sT))) | ((first | apply Run.nil | apply Wp.skip); dsimp only [sQ, tQ, bQ]) | (apply Wp.run; (dsimp only [List.map] <;> exact rfl); exact rfl) | (apply Wp.exit; dsimp only [sQ, tQ, bQ]; simp only [reduceIte]))
          (apply Wp.runD 10 mixed; (dsimp only [List.map] <;> exact rfl); exact rfl; kernel_rfl; (dsimp only [List.take] <;> exact rfl); (dsimp only [List.drop] <;> exact rfl); (((repeat (apply Abn.next; (simp only [push_cast, seval, hx, hz] <;> (try simp (disch := omega) only [wI, wU, wC]) <;> exact rfl); (focus ((try simp only [push_cast, seval, hx, hz]) <;> exact sT)))); (apply Abn.pureP; (simp only [push_cast, seval, hx, hz] <;> (try simp (disch := omega) only [wI, wU, wC]) <;> exact rfl); (exact (Enters.of Try.func95 rfl rfl)); (exact hsm); (focus (simp only [push_cast, seval, hx, hz] <;> first | trivial | assumption | (refine ⟨?_, ?_⟩ <;> assumption) | (simp; done))); (try dsimp only [putA, optG])); (repeat (apply Abn.next; (simp only [push_cast, seval, hx, hz] <;> (try simp (disch := omega) only [wI, wU, wC]) <;> exact rfl); (focus ((try simp only [push_cast, seval, hx, hz]) <;> exact sT))))); exact Abn.nil))
          repeat (first | apply Wp.seq | apply Wp.block | (apply Run.next; (simp only [push_cast, seval, hx, hz] <;> (try simp (disch := omega) only [wI, wU, wC]) <;> exact rfl); (focus ((try simp only [push_cast, seval, hx, hz]) <;> exact sT))) | ((first | apply Run.nil | apply Wp.skip); dsimp only [sQ, tQ, bQ]) | (apply Wp.run; (dsimp only [List.map] <;> exact rfl); exact rfl) | (apply Wp.exit; dsimp only [sQ, tQ, bQ]; simp only [reduceIte]))
          (apply Wp.cond; (simp only [push_cast, seval, hx, hz] <;> (try simp (disch := omega) only [wI, wU, wC]) <;> exact rfl))
          · intro h2
            rw [if_pos h2] at hins
            repeat (first | apply Wp.seq | apply Wp.block | (apply Run.next; (simp only [push_cast, seval, hx, hz] <;> (try simp (disch := omega) only [wI, wU, wC]) <;> exact rfl); (focus ((try simp only [push_cast, seval, hx, hz]) <;> exact sT))) | ((first | apply Run.nil | apply Wp.skip); dsimp only [sQ, tQ, bQ]) | (apply Wp.run; (dsimp only [List.map] <;> exact rfl); exact rfl) | (apply Wp.exit; dsimp only [sQ, tQ, bQ]; simp only [reduceIte]))
            refine ⟨k + 1, ?_, ⟨by omega, by omega⟩, by omega⟩
            rw [hins, List.length_append]
            (refine Le.of ?_ ?_ rfl rfl <;> (try simp only [push_cast, seval, hx, hz]) <;> (try (with_reducible rfl)))
          · intro h2
            rw [if_neg (by rw [h2]; simp)] at hins
            repeat (first | apply Wp.seq | apply Wp.block | (apply Run.next; (simp only [push_cast, seval, hx, hz] <;> (try simp (disch := omega) only [wI, wU, wC]) <;> exact rfl); (focus ((try simp only [push_cast, seval, hx, hz]) <;> exact sT))) | ((first | apply Run.nil | apply Wp.skip); dsimp only [sQ, tQ, bQ]) | (apply Wp.run; (dsimp only [List.map] <;> exact rfl); exact rfl) | (apply Wp.exit; dsimp only [sQ, tQ, bQ]; simp only [reduceIte]))
            refine ⟨k + 1, ?_, ⟨by omega, by omega⟩, by omega⟩
            rw [hins]
            (refine Le.of ?_ ?_ rfl rfl <;> (try simp only [push_cast, seval, hx, hz]) <;> (try (with_reducible rfl)))
        · intro hci
          simp only [decide_eq_false_iff_not, Int.ofNat_lt] at hci
          have e : prP p ls.length (i + 1) = oi := by
            rw [hos, show ls.length = k by omega, hinn, hoi]
          repeat (first | apply Wp.seq | apply Wp.block | (apply Run.next; (simp only [push_cast, seval, hx] <;> (try simp (disch := omega) only [wI, wU, wC]) <;> exact rfl); (focus ((try simp only [push_cast, seval, hx]) <;> exact sT))) | ((first | apply Run.nil | apply Wp.skip); dsimp only [sQ, tQ, bQ]) | (apply Wp.run; (dsimp only [List.map] <;> exact rfl); exact rfl) | (apply Wp.exit; dsimp only [sQ, tQ, bQ]; simp only [reduceIte]))
          refine ⟨i + 1, ?_, by omega, by omega⟩
          rw [e]
          (refine Le.of ?_ ?_ rfl rfl <;> (try simp only [push_cast, seval, hx]) <;> (try (with_reducible rfl)))
    · intro hck'
      simp only [decide_eq_false_iff_not, Int.ofNat_lt] at hck'
      obtain rfl : i = ls.length := by omega
      repeat (first | apply Wp.seq | apply Wp.block | (apply Run.next; (simp only [push_cast, seval] <;> (try simp (disch := omega) only [wI, wU, wC]) <;> exact rfl); (focus ((try simp only [push_cast, seval]) <;> exact sT))) | ((first | apply Run.nil | apply Wp.skip); dsimp only [sQ, tQ, bQ]) | (apply Wp.run; (dsimp only [List.map] <;> exact rfl); exact rfl) | (apply Wp.exit; dsimp only [sQ, tQ, bQ]; simp only [reduceIte]))
      (apply Wp.freeze 4; (simp only [push_cast, seval] <;> (try simp (disch := omega) only [wI, wU, wC]) <;> exact rfl); (simp only [push_cast, seval] <;> (try simp (disch := omega) only [wI, wU, wC]) <;> exact rfl); (focus (try simp only [push_cast, seval]); (try (exact sT))); (focus (exact sT)))
      (apply Wp.ret; (try dsimp only [sQ, tQ, bQ]); apply leave0; exact rfl; (simp only [push_cast, seval] <;> (try simp (disch := omega) only [wI, wU, wC]) <;> exact rfl); all_goals (try simp only [push_cast, seval]); (try rfl))
      rw [hout]
theorem rfits_pure {cs : List Ch} {ms : List Ma} {cake : Int} {ls : List Bk} (hv : HV cs ms cake) (hl : LV cs ls) : Pure Try.prog 61 [houA cs ms cake, .lst 6 (ls.map bkA)] (.bool (fitB cs cake ls)) := by
  have htk := rtaken_pure (ms := ms) hv hl
  have hl20 := hl.l20
  unfold fitB
  generalize tkP cs cake ls = l at htk
  have hle : decide ((l.length : Int) = 0) = decide (l = []) := decide_eq_decide.2 ⟨fun h => List.length_eq_zero_iff.1 (by omega), fun h => by subst h; rfl⟩
  (refine Spec.of_body Try.func61 rfl (by rw [Try.ntmps61]; simp) 0 (by simp) ?_; rw [Try.results61, Try.ntmps61]; simp only [entry, zipArgs, Nat.reduceAdd])
  repeat (first | apply Wp.seq | apply Wp.block | (apply Run.next; (simp only [push_cast, seval] <;> (try simp (disch := omega) only [wI, wU, wC]) <;> exact rfl); (focus ((try simp only [push_cast, seval]) <;> exact sT))) | ((first | apply Run.nil | apply Wp.skip); dsimp only [sQ, tQ, bQ]) | (apply Wp.run; (dsimp only [List.map] <;> exact rfl); exact rfl) | (apply Wp.exit; dsimp only [sQ, tQ, bQ]; simp only [reduceIte]))
  refine Wp.loop (fun (k : Nat) => { t := [(1, .lst 6 (ls.map bkA)), (2, .optr 0 0 0 0), (5, .int k)], m := [⟨0, .row 3 [houA cs ms cake]⟩], n := 51 }) (fun k => k ≤ ls.length ∧ ∀ j, j < k → rvB ls (ls.getD j bk0) = false) (fun k => ls.length - k) 0 ?_ ?_ ?_
  · (refine Le.of ?_ ?_ rfl rfl <;> (try simp only [push_cast, seval]) <;> (try (with_reducible rfl)))
    all_goals rfl
  · simp
  · rintro k ⟨hk1, hk2⟩
    repeat (first | apply Wp.seq | apply Wp.block | (apply Run.next; (simp only [push_cast, seval] <;> (try simp (disch := omega) only [wI, wU, wC]) <;> exact rfl); (focus ((try simp only [push_cast, seval]) <;> exact sT))) | ((first | apply Run.nil | apply Wp.skip); dsimp only [sQ, tQ, bQ]) | (apply Wp.run; (dsimp only [List.map] <;> exact rfl); exact rfl) | (apply Wp.exit; dsimp only [sQ, tQ, bQ]; simp only [reduceIte]))
    (apply Wp.cond; (simp only [push_cast, seval] <;> (try simp (disch := omega) only [wI, wU, wC]) <;> exact rfl))
    · intro hc1
      simp only [decide_eq_true_eq, Int.ofNat_lt] at hc1
      have hrv := hl.rv k hc1
      have hrb : rvB ls (ls.getD k bk0) = (decide (0 ≤ (ls.getD k bk0).rival) && (!decide ((ls.getD (ls.getD k bk0).rival.toNat bk0).st = (ls.getD k bk0).st) || decide ((ls.getD (ls.getD k bk0).rival.toNat bk0).ch = (ls.getD k bk0).ch))) := rfl
      generalize hx : ls.getD k bk0 = x at hrv hrb
      generalize hy : ls.getD x.rival.toNat bk0 = y at hrb
      repeat (first | apply Wp.seq | apply Wp.block | (apply Run.next; (simp only [push_cast, seval, hx, hy] <;> (try simp (disch := omega) only [wI, wU, wC]) <;> exact rfl); (focus ((try simp only [push_cast, seval, hx, hy]) <;> exact sT))) | ((first | apply Run.nil | apply Wp.skip); dsimp only [sQ, tQ, bQ]) | (apply Wp.run; (dsimp only [List.map] <;> exact rfl); exact rfl) | (apply Wp.exit; dsimp only [sQ, tQ, bQ]; simp only [reduceIte]))
      (apply Wp.runD 28 mixed; (dsimp only [List.map] <;> exact rfl); exact rfl; kernel_rfl; (dsimp only [List.take] <;> exact rfl); (dsimp only [List.drop] <;> exact rfl); (((repeat (apply Abn.next; (simp only [push_cast, seval, hx, hy] <;> (try simp (disch := omega) only [wI, wU, wC]) <;> exact rfl); (focus ((try simp only [push_cast, seval, hx, hy]) <;> exact sT))))); exact Abn.nil))
      repeat (first | apply Wp.seq | apply Wp.block | (apply Run.next; (simp only [push_cast, seval, hx, hy] <;> (try simp (disch := omega) only [wI, wU, wC]) <;> exact rfl); (focus ((try simp only [push_cast, seval, hx, hy]) <;> exact sT))) | ((first | apply Run.nil | apply Wp.skip); dsimp only [sQ, tQ, bQ]) | (apply Wp.run; (dsimp only [List.map] <;> exact rfl); exact rfl) | (apply Wp.exit; dsimp only [sQ, tQ, bQ]; simp only [reduceIte]))
      (apply Wp.cond; (simp only [push_cast, seval, hx, hy] <;> (try simp (disch := omega) only [wI, wU, wC]) <;> exact rfl))
      · intro h4
        have h5 : rvB ls x = true := by rw [hrb]; simpa using h4
        rw [← hx] at h5
        repeat (first | apply Wp.seq | apply Wp.block | (apply Run.next; (simp only [push_cast, seval, hx, hy] <;> (try simp (disch := omega) only [wI, wU, wC]) <;> exact rfl); (focus ((try simp only [push_cast, seval, hx, hy]) <;> exact sT))) | ((first | apply Run.nil | apply Wp.skip); dsimp only [sQ, tQ, bQ]) | (apply Wp.run; (dsimp only [List.map] <;> exact rfl); exact rfl) | (apply Wp.exit; dsimp only [sQ, tQ, bQ]; simp only [reduceIte]))
        (apply Wp.ret; (try dsimp only [sQ, tQ, bQ]); apply leave0; exact rfl; (simp only [push_cast, seval, hx, hy] <;> (try simp (disch := omega) only [wI, wU, wC]) <;> exact rfl); all_goals (try simp only [push_cast, seval, hx, hy]); (try rfl))
        rw [show ls.any (rvB ls) = true from List.any_eq_true.2 ⟨_, memBk hc1, h5⟩]; simp
      · intro h4
        have h5 : rvB ls x = false := by rw [hrb]; simpa using h4
        repeat (first | apply Wp.seq | apply Wp.block | (apply Run.next; (simp only [push_cast, seval, hx, hy] <;> (try simp (disch := omega) only [wI, wU, wC]) <;> exact rfl); (focus ((try simp only [push_cast, seval, hx, hy]) <;> exact sT))) | ((first | apply Run.nil | apply Wp.skip); dsimp only [sQ, tQ, bQ]) | (apply Wp.run; (dsimp only [List.map] <;> exact rfl); exact rfl) | (apply Wp.exit; dsimp only [sQ, tQ, bQ]; simp only [reduceIte]))
        refine ⟨k + 1, ?_, ⟨by omega, fun j hj => ?_⟩, by omega⟩
        · (refine Le.of ?_ ?_ rfl rfl <;> (try simp only [push_cast, seval, hx, hy]) <;> (try (with_reducible rfl)))
        · by_cases hjk : j = k
          · subst hjk; rw [hx]; exact h5
          · exact hk2 j (by omega)
    · intro hc1
      simp only [decide_eq_false_iff_not, Int.ofNat_lt] at hc1
      obtain rfl : k = ls.length := by omega
      repeat (first | apply Wp.seq | apply Wp.block | (apply Run.next; (simp only [push_cast, seval, hle] <;> (try simp (disch := omega) only [wI, wU, wC]) <;> exact rfl); (focus ((try simp only [push_cast, seval, hle]) <;> exact sT))) | ((first | apply Run.nil | apply Wp.skip); dsimp only [sQ, tQ, bQ]) | (apply Wp.run; (dsimp only [List.map] <;> exact rfl); exact rfl) | (apply Wp.exit; dsimp only [sQ, tQ, bQ]; simp only [reduceIte]))
      (apply Run.pureFP; (simp only [push_cast, seval, hle] <;> (try simp (disch := omega) only [wI, wU, wC]) <;> exact rfl); (exact (Enters.of Try.func74 rfl rfl)); (exact htk); (focus (simp only [push_cast, seval, hle] <;> first | trivial | assumption | (refine ⟨?_, ?_⟩ <;> assumption) | (simp; done))); (try dsimp only [putA, optG]))
      repeat (first | apply Wp.seq | apply Wp.block | (apply Run.next; (simp only [push_cast, seval, hle] <;> (try simp (disch := omega) only [wI, wU, wC]) <;> exact rfl); (focus ((try simp only [push_cast, seval, hle]) <;> exact sT))) | ((first | apply Run.nil | apply Wp.skip); dsimp only [sQ, tQ, bQ]) | (apply Wp.run; (dsimp only [List.map] <;> exact rfl); exact rfl) | (apply Wp.exit; dsimp only [sQ, tQ, bQ]; simp only [reduceIte]))
      (apply Wp.ret; (try dsimp only [sQ, tQ, bQ]); apply leave0; exact rfl; (simp only [push_cast, seval, hle] <;> (try simp (disch := omega) only [wI, wU, wC]) <;> exact rfl); all_goals (try simp only [push_cast, seval, hle]); (try rfl))
      rw [anyNoneBk hk2]; simp
end Go.Proofs.Try
set_option maxHeartbeats 8000000
set_option maxRecDepth 20000
namespace Go.Proofs.Try
open Go.Vg

/-! bookings are added -/
theorem staff_emp {cs : List Ch} {ms : List Ma} {cake : Int} {ls : List Bk} (h : PW cs ms cake ls) : Pure Try.prog 62 [houA cs ms cake, .lst 6 (ls.map bkA), .emp] (.tup [stA (stR cs ms ls ls.length []), .bool (psB cs ms ls)]) :=
  Spec.args (staff_pure h ls.length [] (by simp)) (by
    rintro X w ρ vs ⟨v1, _, rfl, h1, v2, _, rfl, h2, v3, _, rfl, h3, h4⟩
    exact ⟨v1, _, rfl, h1, v2, _, rfl, h2, v3, _, rfl, emp_lst 1 h3, h4⟩)
def edE (cs : List Ch) (ms : List Ma) (cake : Int) (ls : List Bk) : Int := if fitB cs cake ls = true then (if psB cs ms ls = true then 0 else 112) else 111
theorem end_pure {cs : List Ch} {ms : List Ma} {cake : Int} {ls : List Bk} (h : PW cs ms cake ls) : Pure Try.prog 54 [houA cs ms cake, .lst 6 (ls.map bkA)] (.int (edE cs ms cake ls)) := by
  have hf := rfits_pure (ms := ms) h.hv h.lv
  have hs := staff_emp h
  have hso := stA_ok (stR cs ms ls ls.length [])
  have hsv : (∃ s, stA (stR cs ms ls ls.length []) = .ints s) ∨ stA (stR cs ms ls ls.length []) = .emp := by
    cases stR cs ms ls ls.length [] with
    | some s => exact .inl ⟨s, rfl⟩
    | none => exact .inr rfl
  unfold edE
  generalize stA (stR cs ms ls ls.length []) = x at hs hso hsv
  cases h1 : fitB cs cake ls with
  | false =>
    rw [h1] at hf
    rw [if_neg (by simp)]
    (refine Spec.of_body Try.func54 rfl (by rw [Try.ntmps54]; simp) 0 (by simp) ?_; rw [Try.results54, Try.ntmps54]; simp only [entry, zipArgs, Nat.reduceAdd])
    repeat (first | apply Wp.seq | apply Wp.block | (apply Run.next; (simp only [push_cast, seval] <;> (try simp (disch := omega) only [wI, wU, wC]) <;> exact rfl); (focus ((try simp only [push_cast, seval]) <;> exact sT))) | ((first | apply Run.nil | apply Wp.skip); dsimp only [sQ, tQ, bQ]) | (apply Wp.run; (dsimp only [List.map] <;> exact rfl); exact rfl) | (apply Wp.exit; dsimp only [sQ, tQ, bQ]; simp only [reduceIte]))
    (apply Run.pureP; (simp only [push_cast, seval] <;> (try simp (disch := omega) only [wI, wU, wC]) <;> exact rfl); (exact (Enters.of Try.func61 rfl rfl)); (exact hf); (focus (simp only [push_cast, seval] <;> first | trivial | assumption | (refine ⟨?_, ?_⟩ <;> assumption) | (simp; done))); (try dsimp only [putA, optG]))
    repeat (first | apply Wp.seq | apply Wp.block | (apply Run.next; (simp only [push_cast, seval] <;> (try simp (disch := omega) only [wI, wU, wC]) <;> exact rfl); (focus ((try simp only [push_cast, seval]) <;> exact sT))) | ((first | apply Run.nil | apply Wp.skip); dsimp only [sQ, tQ, bQ]) | (apply Wp.run; (dsimp only [List.map] <;> exact rfl); exact rfl) | (apply Wp.exit; dsimp only [sQ, tQ, bQ]; simp only [reduceIte]) | (apply Run.gtrue; (simp only [push_cast, seval] <;> (try simp (disch := omega) only [wI, wU, wC]) <;> exact rfl); (simp only [push_cast, seval] <;> (try simp (disch := omega) only [wI, wU, wC]) <;> exact rfl)) | (apply Run.gfalse (.bool false); (simp only [push_cast, seval] <;> (try simp (disch := omega) only [wI, wU, wC]) <;> exact rfl); dsimp only [S.put, optG]) | (apply Wp.condT; (simp only [push_cast, seval] <;> (try simp (disch := omega) only [wI, wU, wC]) <;> exact rfl)) | (apply Wp.condF; (simp only [push_cast, seval] <;> (try simp (disch := omega) only [wI, wU, wC]) <;> exact rfl)))
    (apply Wp.ret; (try dsimp only [sQ, tQ, bQ]); apply leave0; exact rfl; (simp only [push_cast, seval] <;> (try simp (disch := omega) only [wI, wU, wC]) <;> exact rfl); all_goals (try simp only [push_cast, seval]); (try rfl))
  | true =>
    rw [h1] at hf
    rw [if_pos rfl]
    cases h2 : psB cs ms ls with
    | false =>
      rw [h2] at hs
      rw [if_neg (by simp)]
      rcases hsv with ⟨s, rfl⟩ | rfl
      all_goals
        (refine Spec.of_body Try.func54 rfl (by rw [Try.ntmps54]; simp) 0 (by simp) ?_; rw [Try.results54, Try.ntmps54]; simp only [entry, zipArgs, Nat.reduceAdd])
        repeat (first | apply Wp.seq | apply Wp.block | (apply Run.next; (simp only [push_cast, seval] <;> (try simp (disch := omega) only [wI, wU, wC]) <;> exact rfl); (focus ((try simp only [push_cast, seval]) <;> exact sT))) | ((first | apply Run.nil | apply Wp.skip); dsimp only [sQ, tQ, bQ]) | (apply Wp.run; (dsimp only [List.map] <;> exact rfl); exact rfl) | (apply Wp.exit; dsimp only [sQ, tQ, bQ]; simp only [reduceIte]))
        (apply Run.pureP; (simp only [push_cast, seval] <;> (try simp (disch := omega) only [wI, wU, wC]) <;> exact rfl); (exact (Enters.of Try.func61 rfl rfl)); (exact hf); (focus (simp only [push_cast, seval] <;> first | trivial | assumption | (refine ⟨?_, ?_⟩ <;> assumption) | (simp; done))); (try dsimp only [putA, optG]))
        repeat (first | apply Wp.seq | apply Wp.block | (apply Run.next; (simp only [push_cast, seval] <;> (try simp (disch := omega) only [wI, wU, wC]) <;> exact rfl); (focus ((try simp only [push_cast, seval]) <;> exact sT))) | ((first | apply Run.nil | apply Wp.skip); dsimp only [sQ, tQ, bQ]) | (apply Wp.run; (dsimp only [List.map] <;> exact rfl); exact rfl) | (apply Wp.exit; dsimp only [sQ, tQ, bQ]; simp only [reduceIte]) | (apply Run.gtrue; (simp only [push_cast, seval] <;> (try simp (disch := omega) only [wI, wU, wC]) <;> exact rfl); (simp only [push_cast, seval] <;> (try simp (disch := omega) only [wI, wU, wC]) <;> exact rfl)) | (apply Run.gfalse (.bool false); (simp only [push_cast, seval] <;> (try simp (disch := omega) only [wI, wU, wC]) <;> exact rfl); dsimp only [S.put, optG]) | (apply Wp.condT; (simp only [push_cast, seval] <;> (try simp (disch := omega) only [wI, wU, wC]) <;> exact rfl)) | (apply Wp.condF; (simp only [push_cast, seval] <;> (try simp (disch := omega) only [wI, wU, wC]) <;> exact rfl)))
        (apply Run.pureFP; (simp only [push_cast, seval] <;> (try simp (disch := omega) only [wI, wU, wC]) <;> exact rfl); (exact (Enters.of Try.func62 rfl rfl)); (exact hs); (focus (simp only [push_cast, seval] <;> first | trivial | assumption | (refine ⟨?_, ?_⟩ <;> assumption) | (simp; done))); (try dsimp only [putA, optG]))
        repeat (first | apply Wp.seq | apply Wp.block | (apply Run.next; (simp only [push_cast, seval] <;> (try simp (disch := omega) only [wI, wU, wC]) <;> exact rfl); (focus ((try simp only [push_cast, seval]) <;> exact sT))) | ((first | apply Run.nil | apply Wp.skip); dsimp only [sQ, tQ, bQ]) | (apply Wp.run; (dsimp only [List.map] <;> exact rfl); exact rfl) | (apply Wp.exit; dsimp only [sQ, tQ, bQ]; simp only [reduceIte]) | (apply Run.gtrue; (simp only [push_cast, seval] <;> (try simp (disch := omega) only [wI, wU, wC]) <;> exact rfl); (simp only [push_cast, seval] <;> (try simp (disch := omega) only [wI, wU, wC]) <;> exact rfl)) | (apply Run.gfalse (.bool false); (simp only [push_cast, seval] <;> (try simp (disch := omega) only [wI, wU, wC]) <;> exact rfl); dsimp only [S.put, optG]) | (apply Wp.condT; (simp only [push_cast, seval] <;> (try simp (disch := omega) only [wI, wU, wC]) <;> exact rfl)) | (apply Wp.condF; (simp only [push_cast, seval] <;> (try simp (disch := omega) only [wI, wU, wC]) <;> exact rfl)))
        (apply Wp.ret; (try dsimp only [sQ, tQ, bQ]); apply leave0; exact rfl; (simp only [push_cast, seval] <;> (try simp (disch := omega) only [wI, wU, wC]) <;> exact rfl); all_goals (try simp only [push_cast, seval]); (try rfl))
    | true =>
      rw [h2] at hs
      rw [if_pos rfl]
      rcases hsv with ⟨s, rfl⟩ | rfl
      all_goals
        (refine Spec.of_body Try.func54 rfl (by rw [Try.ntmps54]; simp) 0 (by simp) ?_; rw [Try.results54, Try.ntmps54]; simp only [entry, zipArgs, Nat.reduceAdd])
        repeat (first | apply Wp.seq | apply Wp.block | (apply Run.next; (simp only [push_cast, seval] <;> (try simp (disch := omega) only [wI, wU, wC]) <;> exact rfl); (focus ((try simp only [push_cast, seval]) <;> exact sT))) | ((first | apply Run.nil | apply Wp.skip); dsimp only [sQ, tQ, bQ]) | (apply Wp.run; (dsimp only [List.map] <;> exact rfl); exact rfl) | (apply Wp.exit; dsimp only [sQ, tQ, bQ]; simp only [reduceIte]))
        (apply Run.pureP; (simp only [push_cast, seval] <;> (try simp (disch := omega) only [wI, wU, wC]) <;> exact rfl); (exact (Enters.of Try.func61 rfl rfl)); (exact hf); (focus (simp only [push_cast, seval] <;> first | trivial | assumption | (refine ⟨?_, ?_⟩ <;> assumption) | (simp; done))); (try dsimp only [putA, optG]))
        repeat (first | apply Wp.seq | apply Wp.block | (apply Run.next; (simp only [push_cast, seval] <;> (try simp (disch := omega) only [wI, wU, wC]) <;> exact rfl); (focus ((try simp only [push_cast, seval]) <;> exact sT))) | ((first | apply Run.nil | apply Wp.skip); dsimp only [sQ, tQ, bQ]) | (apply Wp.run; (dsimp only [List.map] <;> exact rfl); exact rfl) | (apply Wp.exit; dsimp only [sQ, tQ, bQ]; simp only [reduceIte]) | (apply Run.gtrue; (simp only [push_cast, seval] <;> (try simp (disch := omega) only [wI, wU, wC]) <;> exact rfl); (simp only [push_cast, seval] <;> (try simp (disch := omega) only [wI, wU, wC]) <;> exact rfl)) | (apply Run.gfalse (.bool false); (simp only [push_cast, seval] <;> (try simp (disch := omega) only [wI, wU, wC]) <;> exact rfl); dsimp only [S.put, optG]) | (apply Wp.condT; (simp only [push_cast, seval] <;> (try simp (disch := omega) only [wI, wU, wC]) <;> exact rfl)) | (apply Wp.condF; (simp only [push_cast, seval] <;> (try simp (disch := omega) only [wI, wU, wC]) <;> exact rfl)))
        (apply Run.pureFP; (simp only [push_cast, seval] <;> (try simp (disch := omega) only [wI, wU, wC]) <;> exact rfl); (exact (Enters.of Try.func62 rfl rfl)); (exact hs); (focus (simp only [push_cast, seval] <;> first | trivial | assumption | (refine ⟨?_, ?_⟩ <;> assumption) | (simp; done))); (try dsimp only [putA, optG]))
        repeat (first | apply Wp.seq | apply Wp.block | (apply Run.next; (simp only [push_cast, seval] <;> (try simp (disch := omega) only [wI, wU, wC]) <;> exact rfl); (focus ((try simp only [push_cast, seval]) <;> exact sT))) | ((first | apply Run.nil | apply Wp.skip); dsimp only [sQ, tQ, bQ]) | (apply Wp.run; (dsimp only [List.map] <;> exact rfl); exact rfl) | (apply Wp.exit; dsimp only [sQ, tQ, bQ]; simp only [reduceIte]) | (apply Run.gtrue; (simp only [push_cast, seval] <;> (try simp (disch := omega) only [wI, wU, wC]) <;> exact rfl); (simp only [push_cast, seval] <;> (try simp (disch := omega) only [wI, wU, wC]) <;> exact rfl)) | (apply Run.gfalse (.bool false); (simp only [push_cast, seval] <;> (try simp (disch := omega) only [wI, wU, wC]) <;> exact rfl); dsimp only [S.put, optG]) | (apply Wp.condT; (simp only [push_cast, seval] <;> (try simp (disch := omega) only [wI, wU, wC]) <;> exact rfl)) | (apply Wp.condF; (simp only [push_cast, seval] <;> (try simp (disch := omega) only [wI, wU, wC]) <;> exact rfl)))
        (apply Wp.ret; (try dsimp only [sQ, tQ, bQ]); apply leave0; exact rfl; (simp only [push_cast, seval] <;> (try simp (disch := omega) only [wI, wU, wC]) <;> exact rfl); all_goals (try simp only [push_cast, seval]); (try rfl))
end Go.Proofs.Try
set_option maxHeartbeats 8000000
namespace Go.Proofs.Try
open Go.Vg
theorem sameInts_pure (a b : List Int) : Pure Try.prog 32 [.ints a, .ints b] (.bool (decide (a = b))) := by
  (refine Spec.of_body Try.func32 rfl (by rw [Try.ntmps32]; simp) 0 (by simp) ?_; rw [Try.results32, Try.ntmps32]; simp only [entry, zipArgs, Nat.reduceAdd])
  apply Wp.len 0; (simp only [push_cast, seval] <;> (try simp (disch := omega) only [wI, wU, wC]) <;> exact rfl)
  intro hlen
  simp only [List.length_map] at hlen
  repeat (first | apply Wp.seq | apply Wp.block | (apply Run.next; (simp only [push_cast, seval] <;> (try simp (disch := omega) only [wI, wU, wC]) <;> exact rfl); (focus ((try simp only [push_cast, seval]) <;> exact sT))) | ((first | apply Run.nil | apply Wp.skip); dsimp only [sQ, tQ, bQ]) | (apply Wp.run; (dsimp only [List.map] <;> exact rfl); exact rfl) | (apply Wp.exit; dsimp only [sQ, tQ, bQ]; simp only [reduceIte]))
  (apply Wp.cond; (simp only [push_cast, seval] <;> (try simp (disch := omega) only [wI, wU, wC]) <;> exact rfl))
  · (intro hc; try simp only [decide_eq_true_eq, decide_eq_false_iff_not, Bool.and_eq_true, Bool.or_eq_true, Bool.not_eq_true, Bool.not_eq_false, Bool.not_eq_true', Bool.not_eq_false', Bool.and_eq_false_iff, Bool.or_eq_false_iff, Int.not_lt, Int.not_le, Int.ofNat_lt, Int.ofNat_le] at hc)
    repeat (first | apply Wp.seq | apply Wp.block | (apply Run.next; (simp only [push_cast, seval] <;> (try simp (disch := omega) only [wI, wU, wC]) <;> exact rfl); (focus ((try simp only [push_cast, seval]) <;> exact sT))) | ((first | apply Run.nil | apply Wp.skip); dsimp only [sQ, tQ, bQ]) | (apply Wp.run; (dsimp only [List.map] <;> exact rfl); exact rfl) | (apply Wp.exit; dsimp only [sQ, tQ, bQ]; simp only [reduceIte]))
    (apply Wp.ret; (try dsimp only [sQ, tQ, bQ]); apply leave0; exact rfl; (simp only [push_cast, seval] <;> (try simp (disch := omega) only [wI, wU, wC]) <;> exact rfl); all_goals (try simp only [push_cast, seval]); (try rfl))
    rw [decide_eq_false]
    intro h
    rw [h] at hc
    exact hc rfl
  · (intro hc; try simp only [decide_eq_true_eq, decide_eq_false_iff_not, Bool.and_eq_true, Bool.or_eq_true, Bool.not_eq_true, Bool.not_eq_false, Bool.not_eq_true', Bool.not_eq_false', Bool.and_eq_false_iff, Bool.or_eq_false_iff, Int.not_lt, Int.not_le, Int.ofNat_lt, Int.ofNat_le] at hc)
    repeat (first | apply Wp.seq | apply Wp.block | (apply Run.next; (simp only [push_cast, seval] <;> (try simp (disch := omega) only [wI, wU, wC]) <;> exact rfl); (focus ((try simp only [push_cast, seval]) <;> exact sT))) | ((first | apply Run.nil | apply Wp.skip); dsimp only [sQ, tQ, bQ]) | (apply Wp.run; (dsimp only [List.map] <;> exact rfl); exact rfl) | (apply Wp.exit; dsimp only [sQ, tQ, bQ]; simp only [reduceIte]))
    refine Wp.loop (fun k : Nat => { t := [(0, .ints a), (1, .ints b), (5, .int k)], m := [], n := 26 }) (fun k => k ≤ a.length ∧ ∀ j, j < k → a.getD j 0 = b.getD j 0) (fun k => a.length - k) 0 ?_ ?_ ?_
    · (refine Le.of ?_ ?_ rfl rfl <;> (try simp only [push_cast, seval]) <;> (try (with_reducible rfl)))
    · simp
    · rintro k ⟨hk1, hk2⟩
      repeat (first | apply Wp.seq | apply Wp.block | (apply Run.next; (simp only [push_cast, seval] <;> (try simp (disch := omega) only [wI, wU, wC]) <;> exact rfl); (focus ((try simp only [push_cast, seval]) <;> exact sT))) | ((first | apply Run.nil | apply Wp.skip); dsimp only [sQ, tQ, bQ]) | (apply Wp.run; (dsimp only [List.map] <;> exact rfl); exact rfl) | (apply Wp.exit; dsimp only [sQ, tQ, bQ]; simp only [reduceIte]))
      (apply Wp.cond; (simp only [push_cast, seval] <;> (try simp (disch := omega) only [wI, wU, wC]) <;> exact rfl))
      · (intro hc; try simp only [decide_eq_true_eq, decide_eq_false_iff_not, Bool.and_eq_true, Bool.or_eq_true, Bool.not_eq_true, Bool.not_eq_false, Bool.not_eq_true', Bool.not_eq_false', Bool.and_eq_false_iff, Bool.or_eq_false_iff, Int.not_lt, Int.not_le, Int.ofNat_lt, Int.ofNat_le] at hc)
        repeat (first | apply Wp.seq | apply Wp.block | (apply Run.next; (simp only [push_cast, seval] <;> (try simp (disch := omega) only [wI, wU, wC]) <;> exact rfl); (focus ((try simp only [push_cast, seval]) <;> exact sT))) | ((first | apply Run.nil | apply Wp.skip); dsimp only [sQ, tQ, bQ]) | (apply Wp.run; (dsimp only [List.map] <;> exact rfl); exact rfl) | (apply Wp.exit; dsimp only [sQ, tQ, bQ]; simp only [reduceIte]))
        (apply Wp.runD 9 mixed; (dsimp only [List.map] <;> exact rfl); exact rfl; kernel_rfl; (dsimp only [List.take] <;> exact rfl); (dsimp only [List.drop] <;> exact rfl); (((repeat (apply Abn.next; (simp only [push_cast, seval] <;> (try simp (disch := omega) only [wI, wU, wC]) <;> exact rfl); (focus ((try simp only [push_cast, seval]) <;> exact sT))))); exact Abn.nil))
        repeat (first | apply Wp.seq | apply Wp.block | (apply Run.next; (simp only [push_cast, seval] <;> (try simp (disch := omega) only [wI, wU, wC]) <;> exact rfl); (focus ((try simp only [push_cast, seval]) <;> exact sT))) | ((first | apply Run.nil | apply Wp.skip); dsimp only [sQ, tQ, bQ]) | (apply Wp.run; (dsimp only [List.map] <;> exact rfl); exact rfl) | (apply Wp.exit; dsimp only [sQ, tQ, bQ]; simp only [reduceIte]))
        (apply Wp.cond; (simp only [push_cast, seval] <;> (try simp (disch := omega) only [wI, wU, wC]) <;> exact rfl))
        · intro h2
          repeat (first | apply Wp.seq | apply Wp.block | (apply Run.next; (simp only [push_cast, seval] <;> (try simp (disch := omega) only [wI, wU, wC]) <;> exact rfl); (focus ((try simp only [push_cast, seval]) <;> exact sT))) | ((first | apply Run.nil | apply Wp.skip); dsimp only [sQ, tQ, bQ]) | (apply Wp.run; (dsimp only [List.map] <;> exact rfl); exact rfl) | (apply Wp.exit; dsimp only [sQ, tQ, bQ]; simp only [reduceIte]))
          (apply Wp.ret; (try dsimp only [sQ, tQ, bQ]); apply leave0; exact rfl; (simp only [push_cast, seval] <;> (try simp (disch := omega) only [wI, wU, wC]) <;> exact rfl); all_goals (try simp only [push_cast, seval]); (try rfl))
          rw [decide_eq_false]
          intro h
          rw [h] at h2
          simp at h2
        · intro h2
          repeat (first | apply Wp.seq | apply Wp.block | (apply Run.next; (simp only [push_cast, seval] <;> (try simp (disch := omega) only [wI, wU, wC]) <;> exact rfl); (focus ((try simp only [push_cast, seval]) <;> exact sT))) | ((first | apply Run.nil | apply Wp.skip); dsimp only [sQ, tQ, bQ]) | (apply Wp.run; (dsimp only [List.map] <;> exact rfl); exact rfl) | (apply Wp.exit; dsimp only [sQ, tQ, bQ]; simp only [reduceIte]))
          simp only [decide_eq_true_eq, Bool.not_eq_false', decide_eq_false_iff_not] at h2
          refine ⟨k + 1, ?_, ⟨by omega, fun j hj => ?_⟩, by omega⟩
          · (refine Le.of ?_ ?_ rfl rfl <;> (try simp only [push_cast, seval]) <;> (try (with_reducible rfl)))
          · by_cases hjk : j = k
            · subst hjk; exact h2
            · exact hk2 j (by omega)
      · (intro hc; try simp only [decide_eq_true_eq, decide_eq_false_iff_not, Bool.and_eq_true, Bool.or_eq_true, Bool.not_eq_true, Bool.not_eq_false, Bool.not_eq_true', Bool.not_eq_false', Bool.and_eq_false_iff, Bool.or_eq_false_iff, Int.not_lt, Int.not_le, Int.ofNat_lt, Int.ofNat_le] at hc)
        repeat (first | apply Wp.seq | apply Wp.block | (apply Run.next; (simp only [push_cast, seval] <;> (try simp (disch := omega) only [wI, wU, wC]) <;> exact rfl); (focus ((try simp only [push_cast, seval]) <;> exact sT))) | ((first | apply Run.nil | apply Wp.skip); dsimp only [sQ, tQ, bQ]) | (apply Wp.run; (dsimp only [List.map] <;> exact rfl); exact rfl) | (apply Wp.exit; dsimp only [sQ, tQ, bQ]; simp only [reduceIte]))
        (apply Wp.ret; (try dsimp only [sQ, tQ, bQ]); apply leave0; exact rfl; (simp only [push_cast, seval] <;> (try simp (disch := omega) only [wI, wU, wC]) <;> exact rfl); all_goals (try simp only [push_cast, seval]); (try rfl))
        rw [decide_eq_true]
        apply List.ext_getElem
        · omega
        · intro j h3 h4
          have := hk2 j (by omega)
          simpa [h3, h4] using this
theorem sameInts_emp' : Pure Try.prog 32 [.emp, .emp] (.bool true) := by
  (refine Spec.of_body Try.func32 rfl (by rw [Try.ntmps32]; simp) 0 (by simp) ?_; rw [Try.results32, Try.ntmps32]; simp only [entry, zipArgs, Nat.reduceAdd])
  repeat (first | apply Wp.seq | apply Wp.block | (apply Run.next; (simp only [push_cast, seval] <;> (try simp (disch := omega) only [wI, wU, wC]) <;> exact rfl); (focus ((try simp only [push_cast, seval]) <;> exact sT))) | ((first | apply Run.nil | apply Wp.skip); dsimp only [sQ, tQ, bQ]) | (apply Wp.run; (dsimp only [List.map] <;> exact rfl); exact rfl) | (apply Wp.exit; dsimp only [sQ, tQ, bQ]; simp only [reduceIte]))
  (apply Wp.cond; (simp only [push_cast, seval] <;> (try simp (disch := omega) only [wI, wU, wC]) <;> exact rfl))
  · intro hc; cases hc
  · intro _
    repeat (first | apply Wp.seq | apply Wp.block | (apply Run.next; (simp only [push_cast, seval] <;> (try simp (disch := omega) only [wI, wU, wC]) <;> exact rfl); (focus ((try simp only [push_cast, seval]) <;> exact sT))) | ((first | apply Run.nil | apply Wp.skip); dsimp only [sQ, tQ, bQ]) | (apply Wp.run; (dsimp only [List.map] <;> exact rfl); exact rfl) | (apply Wp.exit; dsimp only [sQ, tQ, bQ]; simp only [reduceIte]))
    refine Wp.loop (fun k : Nat => { t := [(0, .emp), (1, .emp), (5, .int 0)], m := [], n := 26 }) (fun k => True) (fun k => 0) 0 ?_ ?_ ?_
    · (refine Le.of ?_ ?_ rfl rfl <;> (try simp only [push_cast, seval]) <;> (try (with_reducible rfl)))
    · trivial
    · intro k _
      repeat (first | apply Wp.seq | apply Wp.block | (apply Run.next; (simp only [push_cast, seval] <;> (try simp (disch := omega) only [wI, wU, wC]) <;> exact rfl); (focus ((try simp only [push_cast, seval]) <;> exact sT))) | ((first | apply Run.nil | apply Wp.skip); dsimp only [sQ, tQ, bQ]) | (apply Wp.run; (dsimp only [List.map] <;> exact rfl); exact rfl) | (apply Wp.exit; dsimp only [sQ, tQ, bQ]; simp only [reduceIte]))
      (apply Wp.cond; (simp only [push_cast, seval] <;> (try simp (disch := omega) only [wI, wU, wC]) <;> exact rfl))
      · (intro hc; try simp only [decide_eq_true_eq, decide_eq_false_iff_not, Bool.and_eq_true, Bool.or_eq_true, Bool.not_eq_true, Bool.not_eq_false, Bool.not_eq_true', Bool.not_eq_false', Bool.and_eq_false_iff, Bool.or_eq_false_iff, Int.not_lt, Int.not_le, Int.ofNat_lt, Int.ofNat_le] at hc)
        cases hc
      · intro _
        repeat (first | apply Wp.seq | apply Wp.block | (apply Run.next; (simp only [push_cast, seval] <;> (try simp (disch := omega) only [wI, wU, wC]) <;> exact rfl); (focus ((try simp only [push_cast, seval]) <;> exact sT))) | ((first | apply Run.nil | apply Wp.skip); dsimp only [sQ, tQ, bQ]) | (apply Wp.run; (dsimp only [List.map] <;> exact rfl); exact rfl) | (apply Wp.exit; dsimp only [sQ, tQ, bQ]; simp only [reduceIte]))
        (apply Wp.ret; (try dsimp only [sQ, tQ, bQ]); apply leave0; exact rfl; (simp only [push_cast, seval] <;> (try simp (disch := omega) only [wI, wU, wC]) <;> exact rfl); all_goals (try simp only [push_cast, seval]); (try rfl))


theorem sameInts_same (l : List Int) : Pure Try.prog 32 [.ints l, .ints l] (.bool true) := by
  have h := sameInts_pure l l
  rwa [decide_eq_true (p := l = l) rfl] at h
end Go.Proofs.Try
set_option maxHeartbeats 8000000
namespace Go.Proofs.Try
open Go.Vg

/-! the chapter's examples -/
abbrev exC : List Ch := [⟨2, 6, 60, 20⟩, ⟨3, 8, 45, 15⟩]
abbrev exM : List Ma := [⟨1, 600, 900⟩, ⟨3, 600, 1200⟩]
abbrev exL : List Bk := [⟨0, 600, 4, 0, true, -1⟩, ⟨1, 630, 5, 1, false, -1⟩]
abbrev exb (n : Int) : Bk := ⟨0, n, 2, 1, false, -1⟩
theorem named : Named Try.prog 125 := namedB_ok (by kernel_rfl)
theorem example_pure : Pure Try.prog 49 [] (.tup [houA exC exM 30, .lst 6 (exL.map bkA)]) := xFz_pure named mixed (by kernel_rfl)
theorem exStaff_pure : Pure Try.prog 30 [houA exC exM 30, .lst 6 (exL.map bkA)] (.tup [.ints [0, 1], .int 0]) := xFz_pure named mixed (by kernel_rfl)
theorem exAdd_pure : Pure Try.prog 19 [houA exC exM 30, .lst 6 (exL.map bkA), bkA (exb 710)] (.tup [.lst 6 ((exL ++ [exb 710]).map bkA), .int 0]) := xFz_pure named mixed (by kernel_rfl)
theorem exBegin : bgE exC exM 30 exL 1 = 0 := by kernel_rfl
theorem exLow : (List.range 110).all (fun k => bkB exC 30 (exb (600 + (k : Int))) && !fitB exC 30 (exL ++ [exb (600 + (k : Int))])) = true := by kernel_rfl
theorem exLow_pure (k : Nat) (h : k < 110) : Pure Try.prog 19 [houA exC exM 30, .lst 6 (exL.map bkA), bkA (exb (600 + (k : Int)))] (.tup [.emp, .int 111]) := by
  have := List.all_eq_true.1 exLow k (List.mem_range.2 h)
  simp only [Bool.and_eq_true, Bool.not_eq_true'] at this
  exact add_nofit exBegin _ rfl this.1 this.2
end Go.Proofs.Try
