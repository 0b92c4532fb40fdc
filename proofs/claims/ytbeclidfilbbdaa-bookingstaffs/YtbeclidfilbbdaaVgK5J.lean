/- A part of the proof of BookingStaffs: contracts of functions, with plain laws that they need. -/
import Derived.Test.YtbeclidfilbbdaaVgT
import Derived.Test.YtbeclidfilbbdaaVgDm
import Derived.Test.YtbeclidfilbbdaaVgK27J
set_option linter.all false
set_option maxHeartbeats 8000000
namespace Go.Proofs.Try
open Go.Vg

theorem okB_r (cs : List Ch) (cake : Int) (ls : List Bk) (i : Nat) : okB cs cake ls i = !(!bkB cs cake (ls.getD i bk0) || !wi (ls.getD i bk0).rival (-1) ((ls.length : Int) - 1) || decide ((ls.getD i bk0).rival = (i : Int)) || (decide (0 ≤ (ls.getD i bk0).rival) && !decide ((ls.getD (ls.getD i bk0).rival.toNat bk0).rival = (i : Int)))) := by
  unfold okB
  generalize (ls.getD i bk0).rival = r
  generalize bkB cs cake (ls.getD i bk0) = p
  generalize decide ((ls.getD r.toNat bk0).rival = (i : Int)) = q
  by_cases h1 : r = -1
  · subst h1
    have e1 : decide ((-1 : Int) = (i : Int)) = false := decide_eq_false (by omega)
    have e2 : wi (-1) (-1) ((ls.length : Int) - 1) = true := by rw [wi_iff]; omega
    rw [e1, e2]; cases p <;> simp
  · have e1 : decide (r = -1) = false := decide_eq_false h1
    rw [e1]
    by_cases h2 : 0 ≤ r
    · have e2 : wi r (-1) ((ls.length : Int) - 1) = wi r 0 ((ls.length : Int) - 1) := by
        unfold wi; rw [decide_eq_true h2, decide_eq_true (show -1 ≤ r by omega)]
      rw [e2, decide_eq_true h2]
      generalize wi r 0 ((ls.length : Int) - 1) = u
      generalize decide (r = (i : Int)) = v
      cases p <;> cases q <;> cases u <;> cases v <;> rfl
    · have e2 : wi r 0 ((ls.length : Int) - 1) = false := by unfold wi; rw [decide_eq_false h2]; rfl
      have e3 : wi r (-1) ((ls.length : Int) - 1) = false := by unfold wi; rw [decide_eq_false (show ¬ -1 ≤ r by omega)]; rfl
      rw [e2, e3]
      cases p <;> cases decide (r = (i : Int)) <;> rfl
theorem rcheck_pure (cs : List Ch) (ms : List Ma) (cake : Int) (ls : List Bk) (hc : cs.length ≤ 9223372036854775807) (hm : ms.length ≤ 9223372036854775807) (hl : ls.length ≤ 9223372036854775807) : Pure Try.prog 26 [houA cs ms cake, .lst 6 (ls.map bkA)] (.int (ckE cs ms cake ls)) := by
  have hho := ckHouse_pure cs ms cake hc hm
  unfold ckE
  cases h1 : hoB cs ms cake with
  | false =>
    rw [h1, if_neg (by simp)] at hho
    rw [if_neg (by simp)]
    (refine Spec.of_body Try.func26 rfl (by rw [Try.ntmps26]; simp) 0 (by simp) ?_; rw [Try.results26, Try.ntmps26]; simp only [entry, zipArgs, Nat.reduceAdd])
    repeat (first | apply Wp.seq | apply Wp.block | (apply Run.next; (simp only [push_cast, seval] <;> (try simp (disch := omega) only [wrap_i64, wrap_u8, Int.add_sub_cancel]) <;> exact rfl); (focus ((try simp only [push_cast, seval]) <;> (exact sideT)))) | (apply Run.nil; dsimp only [seqS, thenS, blockS]) | (apply Wp.run; (dsimp only [List.map] <;> exact rfl); (exact rfl)) | (apply Wp.skip; dsimp only [seqS, thenS, blockS]) | (apply Wp.exit; dsimp only [seqS, thenS, blockS]; simp only [reduceIte]))
    (apply Run.pureP; (simp only [push_cast, seval] <;> (try simp (disch := omega) only [wrap_i64, wrap_u8, Int.add_sub_cancel]) <;> exact rfl); (exact (Enters.of Try.func55 rfl rfl)); (exact hho); (focus (simp only [push_cast, seval] <;> first | trivial | assumption | (refine ⟨?_, ?_⟩ <;> assumption) | (simp; done))); (try dsimp only [putA, optG]))
    repeat (first | apply Wp.seq | apply Wp.block | (apply Run.next; (simp only [push_cast, seval] <;> (try simp (disch := omega) only [wrap_i64, wrap_u8, Int.add_sub_cancel]) <;> exact rfl); (focus ((try simp only [push_cast, seval]) <;> (exact sideT)))) | (apply Run.nil; dsimp only [seqS, thenS, blockS]) | (apply Wp.run; (dsimp only [List.map] <;> exact rfl); (exact rfl)) | (apply Wp.skip; dsimp only [seqS, thenS, blockS]) | (apply Wp.exit; dsimp only [seqS, thenS, blockS]; simp only [reduceIte]) | (apply Run.gtrue; (simp only [push_cast, seval] <;> (try simp (disch := omega) only [wrap_i64, wrap_u8, Int.add_sub_cancel]) <;> exact rfl); (simp only [push_cast, seval] <;> (try simp (disch := omega) only [wrap_i64, wrap_u8, Int.add_sub_cancel]) <;> exact rfl)) | (apply Run.gfalse (.bool false); (simp only [push_cast, seval] <;> (try simp (disch := omega) only [wrap_i64, wrap_u8, Int.add_sub_cancel]) <;> exact rfl); dsimp only [S.put, optG]) | (apply Wp.condT; (simp only [push_cast, seval] <;> (try simp (disch := omega) only [wrap_i64, wrap_u8, Int.add_sub_cancel]) <;> exact rfl)) | (apply Wp.condF; (simp only [push_cast, seval] <;> (try simp (disch := omega) only [wrap_i64, wrap_u8, Int.add_sub_cancel]) <;> exact rfl)))
    (apply Wp.ret; (try dsimp only [seqS, thenS, blockS]); apply leave0; (exact rfl); (simp only [push_cast, seval] <;> (try simp (disch := omega) only [wrap_i64, wrap_u8, Int.add_sub_cancel]) <;> exact rfl); all_goals (try simp only [push_cast, seval]); (try rfl))
  | true =>
    rw [h1, if_pos rfl] at hho
    rw [if_pos rfl]
    have hv := hoB_ok h1
    (refine Spec.of_body Try.func26 rfl (by rw [Try.ntmps26]; simp) 0 (by simp) ?_; rw [Try.results26, Try.ntmps26]; simp only [entry, zipArgs, Nat.reduceAdd])
    repeat (first | apply Wp.seq | apply Wp.block | (apply Run.next; (simp only [push_cast, seval] <;> (try simp (disch := omega) only [wrap_i64, wrap_u8, Int.add_sub_cancel]) <;> exact rfl); (focus ((try simp only [push_cast, seval]) <;> (exact sideT)))) | (apply Run.nil; dsimp only [seqS, thenS, blockS]) | (apply Wp.run; (dsimp only [List.map] <;> exact rfl); (exact rfl)) | (apply Wp.skip; dsimp only [seqS, thenS, blockS]) | (apply Wp.exit; dsimp only [seqS, thenS, blockS]; simp only [reduceIte]))
    (apply Run.pureP; (simp only [push_cast, seval] <;> (try simp (disch := omega) only [wrap_i64, wrap_u8, Int.add_sub_cancel]) <;> exact rfl); (exact (Enters.of Try.func55 rfl rfl)); (exact hho); (focus (simp only [push_cast, seval] <;> first | trivial | assumption | (refine ⟨?_, ?_⟩ <;> assumption) | (simp; done))); (try dsimp only [putA, optG]))
    repeat (first | apply Wp.seq | apply Wp.block | (apply Run.next; (simp only [push_cast, seval] <;> (try simp (disch := omega) only [wrap_i64, wrap_u8, Int.add_sub_cancel]) <;> exact rfl); (focus ((try simp only [push_cast, seval]) <;> (exact sideT)))) | (apply Run.nil; dsimp only [seqS, thenS, blockS]) | (apply Wp.run; (dsimp only [List.map] <;> exact rfl); (exact rfl)) | (apply Wp.skip; dsimp only [seqS, thenS, blockS]) | (apply Wp.exit; dsimp only [seqS, thenS, blockS]; simp only [reduceIte]) | (apply Run.gtrue; (simp only [push_cast, seval] <;> (try simp (disch := omega) only [wrap_i64, wrap_u8, Int.add_sub_cancel]) <;> exact rfl); (simp only [push_cast, seval] <;> (try simp (disch := omega) only [wrap_i64, wrap_u8, Int.add_sub_cancel]) <;> exact rfl)) | (apply Run.gfalse (.bool false); (simp only [push_cast, seval] <;> (try simp (disch := omega) only [wrap_i64, wrap_u8, Int.add_sub_cancel]) <;> exact rfl); dsimp only [S.put, optG]) | (apply Wp.condT; (simp only [push_cast, seval] <;> (try simp (disch := omega) only [wrap_i64, wrap_u8, Int.add_sub_cancel]) <;> exact rfl)) | (apply Wp.condF; (simp only [push_cast, seval] <;> (try simp (disch := omega) only [wrap_i64, wrap_u8, Int.add_sub_cancel]) <;> exact rfl)))
    (apply Wp.cond; (simp only [push_cast, seval] <;> (try simp (disch := omega) only [wrap_i64, wrap_u8, Int.add_sub_cancel]) <;> exact rfl))
    · intro h2
      simp only [decide_eq_true_eq] at h2
      repeat (first | apply Wp.seq | apply Wp.block | (apply Run.next; (simp only [push_cast, seval] <;> (try simp (disch := omega) only [wrap_i64, wrap_u8, Int.add_sub_cancel]) <;> exact rfl); (focus ((try simp only [push_cast, seval]) <;> (exact sideT)))) | (apply Run.nil; dsimp only [seqS, thenS, blockS]) | (apply Wp.run; (dsimp only [List.map] <;> exact rfl); (exact rfl)) | (apply Wp.skip; dsimp only [seqS, thenS, blockS]) | (apply Wp.exit; dsimp only [seqS, thenS, blockS]; simp only [reduceIte]))
      (apply Wp.ret; (try dsimp only [seqS, thenS, blockS]); apply leave0; (exact rfl); (simp only [push_cast, seval] <;> (try simp (disch := omega) only [wrap_i64, wrap_u8, Int.add_sub_cancel]) <;> exact rfl); all_goals (try simp only [push_cast, seval]); (try rfl))
      rw [if_neg (by omega)]
    · intro h2
      simp only [decide_eq_false_iff_not, Int.not_lt] at h2
      rw [if_pos (by omega)]
      repeat (first | apply Wp.seq | apply Wp.block | (apply Run.next; (simp only [push_cast, seval] <;> (try simp (disch := omega) only [wrap_i64, wrap_u8, Int.add_sub_cancel]) <;> exact rfl); (focus ((try simp only [push_cast, seval]) <;> (exact sideT)))) | (apply Run.nil; dsimp only [seqS, thenS, blockS]) | (apply Wp.run; (dsimp only [List.map] <;> exact rfl); (exact rfl)) | (apply Wp.skip; dsimp only [seqS, thenS, blockS]) | (apply Wp.exit; dsimp only [seqS, thenS, blockS]; simp only [reduceIte]))
      refine Wp.loop (fun (k : Nat) => { t := [(1, .lst 6 (ls.map bkA)), (2, .optr 0 0 0 0), (6, .int k)], m := [⟨0, .row 3 [houA cs ms cake]⟩], n := 60 }) (fun k => k ≤ ls.length ∧ ∀ j, j < k → okB cs cake ls j = true) (fun k => ls.length - k) 0 ?_ ?_ ?_
      · (refine Le.of ?_ ?_ rfl rfl <;> (try simp only [push_cast, seval]) <;> (try (with_reducible rfl)))
        all_goals rfl
      · simp
      · rintro k ⟨hk1, hk2⟩
        repeat (first | apply Wp.seq | apply Wp.block | (apply Run.next; (simp only [push_cast, seval] <;> (try simp (disch := omega) only [wrap_i64, wrap_u8, Int.add_sub_cancel]) <;> exact rfl); (focus ((try simp only [push_cast, seval]) <;> (exact sideT)))) | (apply Run.nil; dsimp only [seqS, thenS, blockS]) | (apply Wp.run; (dsimp only [List.map] <;> exact rfl); (exact rfl)) | (apply Wp.skip; dsimp only [seqS, thenS, blockS]) | (apply Wp.exit; dsimp only [seqS, thenS, blockS]; simp only [reduceIte]))
        (apply Wp.cond; (simp only [push_cast, seval] <;> (try simp (disch := omega) only [wrap_i64, wrap_u8, Int.add_sub_cancel]) <;> exact rfl))
        · intro hc1
          simp only [decide_eq_true_eq, Int.ofNat_lt] at hc1
          have hbo := isBk_pure hv (ls.getD k bk0)
          have hok := okB_r cs cake ls k
          generalize hx : ls.getD k bk0 = x at hbo hok
          generalize hy : ls.getD x.rival.toNat bk0 = y at hok
          repeat (first | apply Wp.seq | apply Wp.block | (apply Run.next; (simp only [push_cast, seval, hx, hy] <;> (try simp (disch := omega) only [wrap_i64, wrap_u8, Int.add_sub_cancel]) <;> exact rfl); (focus ((try simp only [push_cast, seval, hx, hy]) <;> (exact sideT)))) | (apply Run.nil; dsimp only [seqS, thenS, blockS]) | (apply Wp.run; (dsimp only [List.map] <;> exact rfl); (exact rfl)) | (apply Wp.skip; dsimp only [seqS, thenS, blockS]) | (apply Wp.exit; dsimp only [seqS, thenS, blockS]; simp only [reduceIte]))
          (apply Wp.runD 33 mixed; (dsimp only [List.map] <;> exact rfl); (exact rfl); (kernel_rfl); (dsimp only [List.take] <;> exact rfl); (dsimp only [List.drop] <;> exact rfl); (((repeat (apply Abn.next; (simp only [push_cast, seval, hx, hy] <;> (try simp (disch := omega) only [wrap_i64, wrap_u8, Int.add_sub_cancel]) <;> exact rfl); (focus ((try simp only [push_cast, seval, hx, hy]) <;> (exact sideT))))); (apply Abn.pureP; (simp only [push_cast, seval, hx, hy] <;> (try simp (disch := omega) only [wrap_i64, wrap_u8, Int.add_sub_cancel]) <;> exact rfl); (exact (Enters.of Try.func53 rfl rfl)); (exact hbo); (focus (simp only [push_cast, seval, hx, hy] <;> first | trivial | assumption | (refine ⟨?_, ?_⟩ <;> assumption) | (simp; done))); (try dsimp only [putA, optG])); (repeat (apply Abn.next; (simp only [push_cast, seval, hx, hy] <;> (try simp (disch := omega) only [wrap_i64, wrap_u8, Int.add_sub_cancel]) <;> exact rfl); (focus ((try simp only [push_cast, seval, hx, hy]) <;> (exact sideT))))); (apply Abn.pureP; (simp only [push_cast, seval, hx, hy] <;> (try simp (disch := omega) only [wrap_i64, wrap_u8, Int.add_sub_cancel]) <;> exact rfl); (exact (Enters.of Try.func56 rfl rfl)); (exact rwithin_pure _ _ _); (focus (simp only [push_cast, seval, hx, hy] <;> first | trivial | assumption | (refine ⟨?_, ?_⟩ <;> assumption) | (simp; done))); (try dsimp only [putA, optG])); (repeat (apply Abn.next; (simp only [push_cast, seval, hx, hy] <;> (try simp (disch := omega) only [wrap_i64, wrap_u8, Int.add_sub_cancel]) <;> exact rfl); (focus ((try simp only [push_cast, seval, hx, hy]) <;> (exact sideT))))); (apply Abn.next; (simp only [push_cast, seval, hx, hy] <;> (try simp (disch := omega) only [wrap_i64, wrap_u8, Int.add_sub_cancel]) <;> exact rfl); (focus ((try simp only [push_cast, seval, hx, hy]); intro hg; have hg' := hg; simp only [Bool.or_eq_false_iff, Bool.and_eq_true, Bool.not_eq_false', wi_iff, decide_eq_true_eq] at hg'; first | omega | exact ⟨hg, by omega⟩ | (refine ⟨?_, ?_⟩ <;> omega)))); (repeat (apply Abn.next; (simp only [push_cast, seval, hx, hy] <;> (try simp (disch := omega) only [wrap_i64, wrap_u8, Int.add_sub_cancel]) <;> exact rfl); (focus ((try simp only [push_cast, seval, hx, hy]) <;> (exact sideT)))))); exact Abn.nil))
          repeat (first | apply Wp.seq | apply Wp.block | (apply Run.next; (simp only [push_cast, seval, hx, hy] <;> (try simp (disch := omega) only [wrap_i64, wrap_u8, Int.add_sub_cancel]) <;> exact rfl); (focus ((try simp only [push_cast, seval, hx, hy]) <;> (exact sideT)))) | (apply Run.nil; dsimp only [seqS, thenS, blockS]) | (apply Wp.run; (dsimp only [List.map] <;> exact rfl); (exact rfl)) | (apply Wp.skip; dsimp only [seqS, thenS, blockS]) | (apply Wp.exit; dsimp only [seqS, thenS, blockS]; simp only [reduceIte]))
          (apply Wp.cond; (simp only [push_cast, seval, hx, hy] <;> (try simp (disch := omega) only [wrap_i64, wrap_u8, Int.add_sub_cancel]) <;> exact rfl))
          · intro h4
            have h5 : okB cs cake ls k = false := by rw [hok, h4]; rfl
            repeat (first | apply Wp.seq | apply Wp.block | (apply Run.next; (simp only [push_cast, seval, hx, hy] <;> (try simp (disch := omega) only [wrap_i64, wrap_u8, Int.add_sub_cancel]) <;> exact rfl); (focus ((try simp only [push_cast, seval, hx, hy]) <;> (exact sideT)))) | (apply Run.nil; dsimp only [seqS, thenS, blockS]) | (apply Wp.run; (dsimp only [List.map] <;> exact rfl); (exact rfl)) | (apply Wp.skip; dsimp only [seqS, thenS, blockS]) | (apply Wp.exit; dsimp only [seqS, thenS, blockS]; simp only [reduceIte]))
            (apply Wp.ret; (try dsimp only [seqS, thenS, blockS]); apply leave0; (exact rfl); (simp only [push_cast, seval, hx, hy] <;> (try simp (disch := omega) only [wrap_i64, wrap_u8, Int.add_sub_cancel]) <;> exact rfl); all_goals (try simp only [push_cast, seval, hx, hy]); (try rfl))
            rw [if_neg (by rw [range_no hc1 h5]; simp)]
          · intro h4
            have h5 : okB cs cake ls k = true := by rw [hok, h4]; rfl
            repeat (first | apply Wp.seq | apply Wp.block | (apply Run.next; (simp only [push_cast, seval, hx, hy] <;> (try simp (disch := omega) only [wrap_i64, wrap_u8, Int.add_sub_cancel]) <;> exact rfl); (focus ((try simp only [push_cast, seval, hx, hy]) <;> (exact sideT)))) | (apply Run.nil; dsimp only [seqS, thenS, blockS]) | (apply Wp.run; (dsimp only [List.map] <;> exact rfl); (exact rfl)) | (apply Wp.skip; dsimp only [seqS, thenS, blockS]) | (apply Wp.exit; dsimp only [seqS, thenS, blockS]; simp only [reduceIte]))
            refine ⟨k + 1, ?_, ⟨by omega, fun j hj => ?_⟩, by omega⟩
            · (refine Le.of ?_ ?_ rfl rfl <;> (try simp only [push_cast, seval, hx, hy]) <;> (try (with_reducible rfl)))
            · by_cases hjk : j = k
              · subst hjk; exact h5
              · exact hk2 j (by omega)
        · intro hc1
          simp only [decide_eq_false_iff_not, Int.ofNat_lt] at hc1
          obtain rfl : k = ls.length := by omega
          repeat (first | apply Wp.seq | apply Wp.block | (apply Run.next; (simp only [push_cast, seval] <;> (try simp (disch := omega) only [wrap_i64, wrap_u8, Int.add_sub_cancel]) <;> exact rfl); (focus ((try simp only [push_cast, seval]) <;> (exact sideT)))) | (apply Run.nil; dsimp only [seqS, thenS, blockS]) | (apply Wp.run; (dsimp only [List.map] <;> exact rfl); (exact rfl)) | (apply Wp.skip; dsimp only [seqS, thenS, blockS]) | (apply Wp.exit; dsimp only [seqS, thenS, blockS]; simp only [reduceIte]))
          (apply Wp.ret; (try dsimp only [seqS, thenS, blockS]); apply leave0; (exact rfl); (simp only [push_cast, seval] <;> (try simp (disch := omega) only [wrap_i64, wrap_u8, Int.add_sub_cancel]) <;> exact rfl); all_goals (try simp only [push_cast, seval]); (try rfl))
          rw [if_pos (range_all hk2)]
theorem rsame_pure {cs : List Ch} {ms : List Ma} {cake : Int} (hv : HV cs ms cake) {a b : Bk} (ha : BV cs a) (hb : BV cs b) : Pure Try.prog 95 [houA cs ms cake, bkA a, bkA b] (.bool (sameB cs cake a b)) := by
  have h1 := ends_pure (ms := ms) hv ha
  have h2 := ends_pure (ms := ms) hv hb
  (refine Spec.of_body Try.func95 rfl (by rw [Try.ntmps95]; simp) 0 (by simp) ?_; rw [Try.results95, Try.ntmps95]; simp only [entry, zipArgs, Nat.reduceAdd])
  repeat (first | apply Wp.seq | apply Wp.block | (apply Run.next; (simp only [push_cast, seval] <;> (try simp (disch := omega) only [wrap_i64, wrap_u8, Int.add_sub_cancel]) <;> exact rfl); (focus ((try simp only [push_cast, seval]) <;> (exact sideT)))) | (apply Run.nil; dsimp only [seqS, thenS, blockS]) | (apply Wp.run; (dsimp only [List.map] <;> exact rfl); (exact rfl)) | (apply Wp.skip; dsimp only [seqS, thenS, blockS]) | (apply Wp.exit; dsimp only [seqS, thenS, blockS]; simp only [reduceIte]))
  (apply Run.pureP; (simp only [push_cast, seval] <;> (try simp (disch := omega) only [wrap_i64, wrap_u8, Int.add_sub_cancel]) <;> exact rfl); (exact (Enters.of Try.func29 rfl rfl)); (exact h1); (focus (simp only [push_cast, seval] <;> first | trivial | assumption | (refine ⟨?_, ?_⟩ <;> assumption) | (simp; done))); (try dsimp only [putA, optG]))
  repeat (first | apply Wp.seq | apply Wp.block | (apply Run.next; (simp only [push_cast, seval] <;> (try simp (disch := omega) only [wrap_i64, wrap_u8, Int.add_sub_cancel]) <;> exact rfl); (focus ((try simp only [push_cast, seval]) <;> (exact sideT)))) | (apply Run.nil; dsimp only [seqS, thenS, blockS]) | (apply Wp.run; (dsimp only [List.map] <;> exact rfl); (exact rfl)) | (apply Wp.skip; dsimp only [seqS, thenS, blockS]) | (apply Wp.exit; dsimp only [seqS, thenS, blockS]; simp only [reduceIte]))
  (apply Run.pureP; (simp only [push_cast, seval] <;> (try simp (disch := omega) only [wrap_i64, wrap_u8, Int.add_sub_cancel]) <;> exact rfl); (exact (Enters.of Try.func29 rfl rfl)); (exact h2); (focus (simp only [push_cast, seval] <;> first | trivial | assumption | (refine ⟨?_, ?_⟩ <;> assumption) | (simp; done))); (try dsimp only [putA, optG]))
  repeat (first | apply Wp.seq | apply Wp.block | (apply Run.next; (simp only [push_cast, seval] <;> (try simp (disch := omega) only [wrap_i64, wrap_u8, Int.add_sub_cancel]) <;> exact rfl); (focus ((try simp only [push_cast, seval]) <;> (exact sideT)))) | (apply Run.nil; dsimp only [seqS, thenS, blockS]) | (apply Wp.run; (dsimp only [List.map] <;> exact rfl); (exact rfl)) | (apply Wp.skip; dsimp only [seqS, thenS, blockS]) | (apply Wp.exit; dsimp only [seqS, thenS, blockS]; simp only [reduceIte]))
  (apply Wp.ret; (try dsimp only [seqS, thenS, blockS]); apply leave0; (exact rfl); (simp only [push_cast, seval] <;> (try simp (disch := omega) only [wrap_i64, wrap_u8, Int.add_sub_cancel]) <;> exact rfl); all_goals (try simp only [push_cast, seval]); (try rfl))
  unfold sameB
  generalize decide (a.ch = b.ch) = p1
  generalize decide (a.st < endR cs cake b) = p2
  generalize decide (b.st < endR cs cake a) = p3
  cases p1 <;> cases p2 <;> cases p3 <;> rfl
theorem rtaken_pure {cs : List Ch} {ms : List Ma} {cake : Int} {ls : List Bk} (hv : HV cs ms cake) (hl : LV cs ls) : Pure Try.prog 74 [houA cs ms cake, .lst 6 (ls.map bkA)] (.lst 2 ((tkP cs cake ls).map prA)) := by
  have hl20 := hl.l20
  unfold tkP
  generalize hp : tkF cs cake ls = p
  have hpe : ∀ i k, p i k = sameB cs cake (ls.getD i bk0) (ls.getD k bk0) := by subst hp; intro i k; rfl
  have hsu : ∀ i k, i < k → prI p i (k + 1) = if sameB cs cake (ls.getD i bk0) (ls.getD k bk0) = true then prI p i k ++ [((i : Int), (k : Int))] else prI p i k := fun i k h => by rw [prI_succ p h, hpe]
  (refine Spec.of_body Try.func74 rfl (by rw [Try.ntmps74]; simp) 0 (by simp) ?_; rw [Try.results74, Try.ntmps74]; simp only [entry, zipArgs, Nat.reduceAdd])
  repeat (first | apply Wp.seq | apply Wp.block | (apply Run.next; (simp only [push_cast, seval] <;> (try simp (disch := omega) only [wrap_i64, wrap_u8, Int.add_sub_cancel]) <;> exact rfl); (focus ((try simp only [push_cast, seval]) <;> (exact sideT)))) | (apply Run.nil; dsimp only [seqS, thenS, blockS]) | (apply Wp.run; (dsimp only [List.map] <;> exact rfl); (exact rfl)) | (apply Wp.skip; dsimp only [seqS, thenS, blockS]) | (apply Wp.exit; dsimp only [seqS, thenS, blockS]; simp only [reduceIte]))
  refine Wp.adopt 5 2 (by (simp only [push_cast, seval] <;> (try simp (disch := omega) only [wrap_i64, wrap_u8, Int.add_sub_cancel]) <;> exact rfl)) ?_
  refine Wp.loop (fun (i : Nat) => { t := [(1, .lst 6 (ls.map bkA)), (2, .optr 0 0 0 0), (6, .int i), (5, .osl 1 (prP p ls.length i).length 0 (prP p ls.length i).length)], m := [⟨0, .row 3 [houA cs ms cake]⟩, ⟨(prP p ls.length i).length, .row 2 ((prP p ls.length i).map prA)⟩], n := 39 }) (fun i => i ≤ ls.length) (fun i => ls.length - i) 0 ?_ ?_ ?_
  · (refine Le.of ?_ ?_ rfl rfl <;> (try simp only [push_cast, seval]) <;> (try (with_reducible rfl)))
    all_goals rfl
  · simp
  · rintro i hk1
    have hol := prP_len p hl20 i
    have hos : prP p ls.length (i + 1) = prP p ls.length i ++ prI p i ls.length := rfl
    generalize hout : prP p ls.length i = out at hol hos
    repeat (first | apply Wp.seq | apply Wp.block | (apply Run.next; (simp only [push_cast, seval] <;> (try simp (disch := omega) only [wrap_i64, wrap_u8, Int.add_sub_cancel]) <;> exact rfl); (focus ((try simp only [push_cast, seval]) <;> (exact sideT)))) | (apply Run.nil; dsimp only [seqS, thenS, blockS]) | (apply Wp.run; (dsimp only [List.map] <;> exact rfl); (exact rfl)) | (apply Wp.skip; dsimp only [seqS, thenS, blockS]) | (apply Wp.exit; dsimp only [seqS, thenS, blockS]; simp only [reduceIte]))
    (apply Wp.cond; (simp only [push_cast, seval] <;> (try simp (disch := omega) only [wrap_i64, wrap_u8, Int.add_sub_cancel]) <;> exact rfl))
    · intro hck'
      simp only [decide_eq_true_eq, Int.ofNat_lt] at hck'
      have hio := fun k (h : i < k) => hsu i k h
      have hi0 := prI_nil p i (i + 1) (by omega)
      have hxb := hl.bv i hck'
      generalize hx : ls.getD i bk0 = x at hio hxb
      repeat (first | apply Wp.seq | apply Wp.block | (apply Run.next; (simp only [push_cast, seval, hx] <;> (try simp (disch := omega) only [wrap_i64, wrap_u8, Int.add_sub_cancel]) <;> exact rfl); (focus ((try simp only [push_cast, seval, hx]) <;> (exact sideT)))) | (apply Run.nil; dsimp only [seqS, thenS, blockS]) | (apply Wp.run; (dsimp only [List.map] <;> exact rfl); (exact rfl)) | (apply Wp.skip; dsimp only [seqS, thenS, blockS]) | (apply Wp.exit; dsimp only [seqS, thenS, blockS]; simp only [reduceIte]))
      refine Wp.loop (fun (k : Nat) => { t := [(1, .lst 6 (ls.map bkA)), (2, .optr 0 0 0 0), (6, .int i), (5, .osl 1 (out ++ prI p i k).length 0 (out ++ prI p i k).length), (7, .int k)], m := [⟨0, .row 3 [houA cs ms cake]⟩, ⟨(out ++ prI p i k).length, .row 2 ((out ++ prI p i k).map prA)⟩], n := 39 }) (fun k => i + 1 ≤ k ∧ k ≤ ls.length) (fun k => ls.length - k) (i + 1) ?_ ?_ ?_
      · rw [hi0, List.append_nil]
        (refine Le.of ?_ ?_ rfl rfl <;> (try simp only [push_cast, seval, hx]) <;> (try (with_reducible rfl)))
        all_goals rfl
      · exact ⟨by omega, by omega⟩
      · rintro k ⟨hk2, hk3⟩
        have hil := prI_len p i k
        have his := hio k hk2
        generalize hinn : prI p i k = inn at hil his
        have hle : (out ++ inn).length ≤ 420 := by rw [List.length_append]; omega
        have hins : out ++ prI p i (k + 1) = if sameB cs cake x (ls.getD k bk0) = true then (out ++ inn) ++ [((i : Int), (k : Int))] else out ++ inn := by rw [his]; split <;> simp
        generalize hoi : out ++ inn = oi at hle hins
        repeat (first | apply Wp.seq | apply Wp.block | (apply Run.next; (simp only [push_cast, seval, hx] <;> (try simp (disch := omega) only [wrap_i64, wrap_u8, Int.add_sub_cancel]) <;> exact rfl); (focus ((try simp only [push_cast, seval, hx]) <;> (exact sideT)))) | (apply Run.nil; dsimp only [seqS, thenS, blockS]) | (apply Wp.run; (dsimp only [List.map] <;> exact rfl); (exact rfl)) | (apply Wp.skip; dsimp only [seqS, thenS, blockS]) | (apply Wp.exit; dsimp only [seqS, thenS, blockS]; simp only [reduceIte]))
        (apply Wp.cond; (simp only [push_cast, seval, hx] <;> (try simp (disch := omega) only [wrap_i64, wrap_u8, Int.add_sub_cancel]) <;> exact rfl))
        · intro hci
          simp only [decide_eq_true_eq, Int.ofNat_lt] at hci
          have hzb := hl.bv k hci
          generalize hz : ls.getD k bk0 = z at hins hzb
          have hsm := rsame_pure (ms := ms) hv hxb hzb
          repeat (first | apply Wp.seq | apply Wp.block | (apply Run.next; (simp only [push_cast, seval, hx, hz] <;> (try simp (disch := omega) only [wrap_i64, wrap_u8, Int.add_sub_cancel]) <;> exact rfl); (focus ((try simp only [push_cast, seval, hx, hz]) <;> (exact sideT)))) | (apply Run.nil; dsimp only [seqS, thenS, blockS]) | (apply Wp.run; (dsimp only [List.map] <;> exact rfl); (exact rfl)) | (apply Wp.skip; dsimp only [seqS, thenS, blockS]) | (apply Wp.exit; dsimp only [seqS, thenS, blockS]; simp only [reduceIte]))
          (apply Wp.runD 10 mixed; (dsimp only [List.map] <;> exact rfl); (exact rfl); (kernel_rfl); (dsimp only [List.take] <;> exact rfl); (dsimp only [List.drop] <;> exact rfl); (((repeat (apply Abn.next; (simp only [push_cast, seval, hx, hz] <;> (try simp (disch := omega) only [wrap_i64, wrap_u8, Int.add_sub_cancel]) <;> exact rfl); (focus ((try simp only [push_cast, seval, hx, hz]) <;> (exact sideT))))); (apply Abn.pureP; (simp only [push_cast, seval, hx, hz] <;> (try simp (disch := omega) only [wrap_i64, wrap_u8, Int.add_sub_cancel]) <;> exact rfl); (exact (Enters.of Try.func95 rfl rfl)); (exact hsm); (focus (simp only [push_cast, seval, hx, hz] <;> first | trivial | assumption | (refine ⟨?_, ?_⟩ <;> assumption) | (simp; done))); (try dsimp only [putA, optG])); (repeat (apply Abn.next; (simp only [push_cast, seval, hx, hz] <;> (try simp (disch := omega) only [wrap_i64, wrap_u8, Int.add_sub_cancel]) <;> exact rfl); (focus ((try simp only [push_cast, seval, hx, hz]) <;> (exact sideT)))))); exact Abn.nil))
          repeat (first | apply Wp.seq | apply Wp.block | (apply Run.next; (simp only [push_cast, seval, hx, hz] <;> (try simp (disch := omega) only [wrap_i64, wrap_u8, Int.add_sub_cancel]) <;> exact rfl); (focus ((try simp only [push_cast, seval, hx, hz]) <;> (exact sideT)))) | (apply Run.nil; dsimp only [seqS, thenS, blockS]) | (apply Wp.run; (dsimp only [List.map] <;> exact rfl); (exact rfl)) | (apply Wp.skip; dsimp only [seqS, thenS, blockS]) | (apply Wp.exit; dsimp only [seqS, thenS, blockS]; simp only [reduceIte]))
          (apply Wp.cond; (simp only [push_cast, seval, hx, hz] <;> (try simp (disch := omega) only [wrap_i64, wrap_u8, Int.add_sub_cancel]) <;> exact rfl))
          · intro h2
            rw [if_pos h2] at hins
            repeat (first | apply Wp.seq | apply Wp.block | (apply Run.next; (simp only [push_cast, seval, hx, hz] <;> (try simp (disch := omega) only [wrap_i64, wrap_u8, Int.add_sub_cancel]) <;> exact rfl); (focus ((try simp only [push_cast, seval, hx, hz]) <;> (exact sideT)))) | (apply Run.nil; dsimp only [seqS, thenS, blockS]) | (apply Wp.run; (dsimp only [List.map] <;> exact rfl); (exact rfl)) | (apply Wp.skip; dsimp only [seqS, thenS, blockS]) | (apply Wp.exit; dsimp only [seqS, thenS, blockS]; simp only [reduceIte]))
            refine ⟨k + 1, ?_, ⟨by omega, by omega⟩, by omega⟩
            rw [hins, List.length_append]
            (refine Le.of ?_ ?_ rfl rfl <;> (try simp only [push_cast, seval, hx, hz]) <;> (try (with_reducible rfl)))
          · intro h2
            rw [if_neg (by rw [h2]; simp)] at hins
            repeat (first | apply Wp.seq | apply Wp.block | (apply Run.next; (simp only [push_cast, seval, hx, hz] <;> (try simp (disch := omega) only [wrap_i64, wrap_u8, Int.add_sub_cancel]) <;> exact rfl); (focus ((try simp only [push_cast, seval, hx, hz]) <;> (exact sideT)))) | (apply Run.nil; dsimp only [seqS, thenS, blockS]) | (apply Wp.run; (dsimp only [List.map] <;> exact rfl); (exact rfl)) | (apply Wp.skip; dsimp only [seqS, thenS, blockS]) | (apply Wp.exit; dsimp only [seqS, thenS, blockS]; simp only [reduceIte]))
            refine ⟨k + 1, ?_, ⟨by omega, by omega⟩, by omega⟩
            rw [hins]
            (refine Le.of ?_ ?_ rfl rfl <;> (try simp only [push_cast, seval, hx, hz]) <;> (try (with_reducible rfl)))
        · intro hci
          simp only [decide_eq_false_iff_not, Int.ofNat_lt] at hci
          have e : prP p ls.length (i + 1) = oi := by
            rw [hos, show ls.length = k by omega, hinn, hoi]
          repeat (first | apply Wp.seq | apply Wp.block | (apply Run.next; (simp only [push_cast, seval, hx] <;> (try simp (disch := omega) only [wrap_i64, wrap_u8, Int.add_sub_cancel]) <;> exact rfl); (focus ((try simp only [push_cast, seval, hx]) <;> (exact sideT)))) | (apply Run.nil; dsimp only [seqS, thenS, blockS]) | (apply Wp.run; (dsimp only [List.map] <;> exact rfl); (exact rfl)) | (apply Wp.skip; dsimp only [seqS, thenS, blockS]) | (apply Wp.exit; dsimp only [seqS, thenS, blockS]; simp only [reduceIte]))
          refine ⟨i + 1, ?_, by omega, by omega⟩
          rw [e]
          (refine Le.of ?_ ?_ rfl rfl <;> (try simp only [push_cast, seval, hx]) <;> (try (with_reducible rfl)))
    · intro hck'
      simp only [decide_eq_false_iff_not, Int.ofNat_lt] at hck'
      obtain rfl : i = ls.length := by omega
      repeat (first | apply Wp.seq | apply Wp.block | (apply Run.next; (simp only [push_cast, seval] <;> (try simp (disch := omega) only [wrap_i64, wrap_u8, Int.add_sub_cancel]) <;> exact rfl); (focus ((try simp only [push_cast, seval]) <;> (exact sideT)))) | (apply Run.nil; dsimp only [seqS, thenS, blockS]) | (apply Wp.run; (dsimp only [List.map] <;> exact rfl); (exact rfl)) | (apply Wp.skip; dsimp only [seqS, thenS, blockS]) | (apply Wp.exit; dsimp only [seqS, thenS, blockS]; simp only [reduceIte]))
      (apply Wp.freeze 4; (simp only [push_cast, seval] <;> (try simp (disch := omega) only [wrap_i64, wrap_u8, Int.add_sub_cancel]) <;> exact rfl); (simp only [push_cast, seval] <;> (try simp (disch := omega) only [wrap_i64, wrap_u8, Int.add_sub_cancel]) <;> exact rfl); (focus (try simp only [push_cast, seval]); (try ((exact sideT)))); (focus ((exact sideT))))
      (apply Wp.ret; (try dsimp only [seqS, thenS, blockS]); apply leave0; (exact rfl); (simp only [push_cast, seval] <;> (try simp (disch := omega) only [wrap_i64, wrap_u8, Int.add_sub_cancel]) <;> exact rfl); all_goals (try simp only [push_cast, seval]); (try rfl))
      rw [hout]
theorem rfits_pure {cs : List Ch} {ms : List Ma} {cake : Int} {ls : List Bk} (hv : HV cs ms cake) (hl : LV cs ls) : Pure Try.prog 61 [houA cs ms cake, .lst 6 (ls.map bkA)] (.bool (fitB cs cake ls)) := by
  have htk := rtaken_pure (ms := ms) hv hl
  have hl20 := hl.l20
  unfold fitB
  generalize tkP cs cake ls = l at htk
  have hle : decide ((l.length : Int) = 0) = decide (l = []) := decide_eq_decide.2 ⟨fun h => List.length_eq_zero_iff.1 (by omega), fun h => by subst h; rfl⟩
  (refine Spec.of_body Try.func61 rfl (by rw [Try.ntmps61]; simp) 0 (by simp) ?_; rw [Try.results61, Try.ntmps61]; simp only [entry, zipArgs, Nat.reduceAdd])
  repeat (first | apply Wp.seq | apply Wp.block | (apply Run.next; (simp only [push_cast, seval] <;> (try simp (disch := omega) only [wrap_i64, wrap_u8, Int.add_sub_cancel]) <;> exact rfl); (focus ((try simp only [push_cast, seval]) <;> (exact sideT)))) | (apply Run.nil; dsimp only [seqS, thenS, blockS]) | (apply Wp.run; (dsimp only [List.map] <;> exact rfl); (exact rfl)) | (apply Wp.skip; dsimp only [seqS, thenS, blockS]) | (apply Wp.exit; dsimp only [seqS, thenS, blockS]; simp only [reduceIte]))
  refine Wp.loop (fun (k : Nat) => { t := [(1, .lst 6 (ls.map bkA)), (2, .optr 0 0 0 0), (5, .int k)], m := [⟨0, .row 3 [houA cs ms cake]⟩], n := 51 }) (fun k => k ≤ ls.length ∧ ∀ j, j < k → rvB ls (ls.getD j bk0) = false) (fun k => ls.length - k) 0 ?_ ?_ ?_
  · (refine Le.of ?_ ?_ rfl rfl <;> (try simp only [push_cast, seval]) <;> (try (with_reducible rfl)))
    all_goals rfl
  · simp
  · rintro k ⟨hk1, hk2⟩
    repeat (first | apply Wp.seq | apply Wp.block | (apply Run.next; (simp only [push_cast, seval] <;> (try simp (disch := omega) only [wrap_i64, wrap_u8, Int.add_sub_cancel]) <;> exact rfl); (focus ((try simp only [push_cast, seval]) <;> (exact sideT)))) | (apply Run.nil; dsimp only [seqS, thenS, blockS]) | (apply Wp.run; (dsimp only [List.map] <;> exact rfl); (exact rfl)) | (apply Wp.skip; dsimp only [seqS, thenS, blockS]) | (apply Wp.exit; dsimp only [seqS, thenS, blockS]; simp only [reduceIte]))
    (apply Wp.cond; (simp only [push_cast, seval] <;> (try simp (disch := omega) only [wrap_i64, wrap_u8, Int.add_sub_cancel]) <;> exact rfl))
    · intro hc1
      simp only [decide_eq_true_eq, Int.ofNat_lt] at hc1
      have hrv := hl.rv k hc1
      have hrb : rvB ls (ls.getD k bk0) = (decide (0 ≤ (ls.getD k bk0).rival) && (!decide ((ls.getD (ls.getD k bk0).rival.toNat bk0).st = (ls.getD k bk0).st) || decide ((ls.getD (ls.getD k bk0).rival.toNat bk0).ch = (ls.getD k bk0).ch))) := rfl
      generalize hx : ls.getD k bk0 = x at hrv hrb
      generalize hy : ls.getD x.rival.toNat bk0 = y at hrb
      repeat (first | apply Wp.seq | apply Wp.block | (apply Run.next; (simp only [push_cast, seval, hx, hy] <;> (try simp (disch := omega) only [wrap_i64, wrap_u8, Int.add_sub_cancel]) <;> exact rfl); (focus ((try simp only [push_cast, seval, hx, hy]) <;> (exact sideT)))) | (apply Run.nil; dsimp only [seqS, thenS, blockS]) | (apply Wp.run; (dsimp only [List.map] <;> exact rfl); (exact rfl)) | (apply Wp.skip; dsimp only [seqS, thenS, blockS]) | (apply Wp.exit; dsimp only [seqS, thenS, blockS]; simp only [reduceIte]))
      (apply Wp.runD 28 mixed; (dsimp only [List.map] <;> exact rfl); (exact rfl); (kernel_rfl); (dsimp only [List.take] <;> exact rfl); (dsimp only [List.drop] <;> exact rfl); (((repeat (apply Abn.next; (simp only [push_cast, seval, hx, hy] <;> (try simp (disch := omega) only [wrap_i64, wrap_u8, Int.add_sub_cancel]) <;> exact rfl); (focus ((try simp only [push_cast, seval, hx, hy]) <;> (exact sideT)))))); exact Abn.nil))
      repeat (first | apply Wp.seq | apply Wp.block | (apply Run.next; (simp only [push_cast, seval, hx, hy] <;> (try simp (disch := omega) only [wrap_i64, wrap_u8, Int.add_sub_cancel]) <;> exact rfl); (focus ((try simp only [push_cast, seval, hx, hy]) <;> (exact sideT)))) | (apply Run.nil; dsimp only [seqS, thenS, blockS]) | (apply Wp.run; (dsimp only [List.map] <;> exact rfl); (exact rfl)) | (apply Wp.skip; dsimp only [seqS, thenS, blockS]) | (apply Wp.exit; dsimp only [seqS, thenS, blockS]; simp only [reduceIte]))
      (apply Wp.cond; (simp only [push_cast, seval, hx, hy] <;> (try simp (disch := omega) only [wrap_i64, wrap_u8, Int.add_sub_cancel]) <;> exact rfl))
      · intro h4
        have h5 : rvB ls x = true := by rw [hrb]; simpa using h4
        rw [← hx] at h5
        repeat (first | apply Wp.seq | apply Wp.block | (apply Run.next; (simp only [push_cast, seval, hx, hy] <;> (try simp (disch := omega) only [wrap_i64, wrap_u8, Int.add_sub_cancel]) <;> exact rfl); (focus ((try simp only [push_cast, seval, hx, hy]) <;> (exact sideT)))) | (apply Run.nil; dsimp only [seqS, thenS, blockS]) | (apply Wp.run; (dsimp only [List.map] <;> exact rfl); (exact rfl)) | (apply Wp.skip; dsimp only [seqS, thenS, blockS]) | (apply Wp.exit; dsimp only [seqS, thenS, blockS]; simp only [reduceIte]))
        (apply Wp.ret; (try dsimp only [seqS, thenS, blockS]); apply leave0; (exact rfl); (simp only [push_cast, seval, hx, hy] <;> (try simp (disch := omega) only [wrap_i64, wrap_u8, Int.add_sub_cancel]) <;> exact rfl); all_goals (try simp only [push_cast, seval, hx, hy]); (try rfl))
        rw [show ls.any (rvB ls) = true from List.any_eq_true.2 ⟨_, memBk hc1, h5⟩]; simp
      · intro h4
        have h5 : rvB ls x = false := by rw [hrb]; simpa using h4
        repeat (first | apply Wp.seq | apply Wp.block | (apply Run.next; (simp only [push_cast, seval, hx, hy] <;> (try simp (disch := omega) only [wrap_i64, wrap_u8, Int.add_sub_cancel]) <;> exact rfl); (focus ((try simp only [push_cast, seval, hx, hy]) <;> (exact sideT)))) | (apply Run.nil; dsimp only [seqS, thenS, blockS]) | (apply Wp.run; (dsimp only [List.map] <;> exact rfl); (exact rfl)) | (apply Wp.skip; dsimp only [seqS, thenS, blockS]) | (apply Wp.exit; dsimp only [seqS, thenS, blockS]; simp only [reduceIte]))
        refine ⟨k + 1, ?_, ⟨by omega, fun j hj => ?_⟩, by omega⟩
        · (refine Le.of ?_ ?_ rfl rfl <;> (try simp only [push_cast, seval, hx, hy]) <;> (try (with_reducible rfl)))
        · by_cases hjk : j = k
          · subst hjk; rw [hx]; exact h5
          · exact hk2 j (by omega)
    · intro hc1
      simp only [decide_eq_false_iff_not, Int.ofNat_lt] at hc1
      obtain rfl : k = ls.length := by omega
      repeat (first | apply Wp.seq | apply Wp.block | (apply Run.next; (simp only [push_cast, seval, hle] <;> (try simp (disch := omega) only [wrap_i64, wrap_u8, Int.add_sub_cancel]) <;> exact rfl); (focus ((try simp only [push_cast, seval, hle]) <;> (exact sideT)))) | (apply Run.nil; dsimp only [seqS, thenS, blockS]) | (apply Wp.run; (dsimp only [List.map] <;> exact rfl); (exact rfl)) | (apply Wp.skip; dsimp only [seqS, thenS, blockS]) | (apply Wp.exit; dsimp only [seqS, thenS, blockS]; simp only [reduceIte]))
      (apply Run.pureFP; (simp only [push_cast, seval, hle] <;> (try simp (disch := omega) only [wrap_i64, wrap_u8, Int.add_sub_cancel]) <;> exact rfl); (exact (Enters.of Try.func74 rfl rfl)); (exact htk); (focus (simp only [push_cast, seval, hle] <;> first | trivial | assumption | (refine ⟨?_, ?_⟩ <;> assumption) | (simp; done))); (try dsimp only [putA, optG]))
      repeat (first | apply Wp.seq | apply Wp.block | (apply Run.next; (simp only [push_cast, seval, hle] <;> (try simp (disch := omega) only [wrap_i64, wrap_u8, Int.add_sub_cancel]) <;> exact rfl); (focus ((try simp only [push_cast, seval, hle]) <;> (exact sideT)))) | (apply Run.nil; dsimp only [seqS, thenS, blockS]) | (apply Wp.run; (dsimp only [List.map] <;> exact rfl); (exact rfl)) | (apply Wp.skip; dsimp only [seqS, thenS, blockS]) | (apply Wp.exit; dsimp only [seqS, thenS, blockS]; simp only [reduceIte]))
      (apply Wp.ret; (try dsimp only [seqS, thenS, blockS]); apply leave0; (exact rfl); (simp only [push_cast, seval, hle] <;> (try simp (disch := omega) only [wrap_i64, wrap_u8, Int.add_sub_cancel]) <;> exact rfl); all_goals (try simp only [push_cast, seval, hle]); (try rfl))
      rw [anyNoneBk hk2]; simp
end Go.Proofs.Try
set_option maxHeartbeats 8000000
set_option maxRecDepth 20000
namespace Go.Proofs.Try
open Go.Vg

/-! bookings are added -/
theorem staff_emp {cs : List Ch} {ms : List Ma} {cake : Int} {ls : List Bk} (h : PW cs ms cake ls) : Pure Try.prog 62 [houA cs ms cake, .lst 6 (ls.map bkA), .emp] (.tup [stA (stR cs ms ls ls.length []), .bool (psB cs ms ls)]) :=
  Spec.args (staff_pure h ls.length [] (by simp)) (by
    rintro X w ρ vs ⟨v1, _, rfl, h1, v2, _, rfl, h2, v3, _, rfl, h3, h4⟩
    exact ⟨v1, _, rfl, h1, v2, _, rfl, h2, v3, _, rfl, emp_lst 1 h3, h4⟩)
def edE (cs : List Ch) (ms : List Ma) (cake : Int) (ls : List Bk) : Int := if fitB cs cake ls = true then (if psB cs ms ls = true then 0 else 112) else 111
end Go.Proofs.Try
set_option maxHeartbeats 8000000
set_option maxRecDepth 20000
namespace Go.Proofs.Try
open Go.Vg

/-! the first right staff -/
def sI (n : Nat) (a : Nat → Nat) (i : Nat) : List Int := aL i a ++ List.replicate (n - i) (-1)
theorem sI_len {n i : Nat} (a : Nat → Nat) (h : i ≤ n) : (sI n a i).length = n := by simp [sI, aL_len]; omega
theorem sI_lo {n i j : Nat} (a : Nat → Nat) (h : j < i) : (sI n a i).getD j 0 = (a j : Int) := by
  have h1 := aL_get (k := i) a h
  have h2 := aL_len i a
  simp only [sI, List.getD_eq_getElem?_getD] at *
  rw [List.getElem?_append_left (by omega)]; exact h1
theorem sI_hi {n i j : Nat} (a : Nat → Nat) (h : i ≤ j) (hj : j < n) : (sI n a i).getD j 0 = -1 := by
  have h2 := aL_len i a
  simp only [sI, List.getD_eq_getElem?_getD]
  rw [List.getElem?_append_right (by omega), h2, List.getElem?_replicate, if_pos (by omega)]; rfl
theorem sI_set {n i : Nat} (a : Nat → Nat) (h : i < n) : (sI n a i).set i (a i : Int) = sI n a (i + 1) := by
  have h2 := aL_len i a
  unfold sI
  rw [List.set_append_right _ _ (by omega), h2, Nat.sub_self, aL_succ]
  obtain ⟨j, hj⟩ : ∃ j, n - i = j + 1 := ⟨n - i - 1, by omega⟩
  rw [hj, List.replicate_succ, List.set_cons_zero, show n - (i + 1) = j by omega]
  simp
theorem sI_all (n : Nat) (a : Nat → Nat) : sI n a n = aL n a := by simp [sI]
theorem sI_0 (n : Nat) (a : Nat → Nat) : sI n a 0 = List.replicate n (-1) := by simp [sI, aL]
theorem getD_set_ne (l : List Int) {i j : Nat} (z : Int) (h : i ≠ j) : (l.set i z).getD j 0 = l.getD j 0 := by
  simp only [List.getD_eq_getElem?_getD]; rw [List.getElem?_set_ne h]
theorem poss_at {cs : List Ch} {ms : List Ma} {cake : Int} {ls : List Bk} (h : PW cs ms cake ls) {o : List Nat} (ho : OV ls o) {a : Nat → Nat} (ha : VA cs ms ls a) (hx : ∀ a2, VA cs ms ls a2 → Lx ls.length a a2) {i v : Nat} (hi : i < ls.length) (hv : v ≤ a i) :
    rF cs ms ls ((sI ls.length a i).set i (v : Int)) o Z6 = decide (v = a i) := by
  have hl := sI_len a (Nat.le_of_lt hi)
  have hlo : ∀ j, j < i → ((sI ls.length a i).set i (v : Int)).getD j 0 = (a j : Int) := fun j hj => by
    rw [getD_set_ne _ _ (by omega), sI_lo a hj]
  have hme : ((sI ls.length a i).set i (v : Int)).getD i 0 = (v : Int) := getD_set_self _ _ _ (by omega)
  have hhi : ∀ j, i < j → j < ls.length → ((sI ls.length a i).set i (v : Int)).getD j 0 = -1 := fun j hj hj2 => by
    rw [getD_set_ne _ _ (by omega), sI_hi a (by omega) hj2]
  rw [Bool.eq_iff_iff, rota_iff h.hv.m6 h.hen ho, decide_eq_true_eq]
  constructor
  · rintro ⟨a2, h1, h2⟩
    have e1 : ∀ j, j < i → a j = a2 j := fun j hj => by
      have := h2 j (by omega) (by rw [hlo j hj]; omega)
      rw [hlo j hj] at this; omega
    have e2 := h2 i hi (by rw [hme]; omega)
    rw [hme] at e2
    have := hx a2 h1 i hi e1
    omega
  · rintro rfl
    refine ⟨a, ha, fun j hj h0 => ?_⟩
    rcases Nat.lt_trichotomy j i with h1 | h1 | h1
    · exact hlo j h1
    · subst h1; exact hme
    · rw [hhi j h1 hj] at h0; omega
def sfE (cs : List Ch) (ms : List Ma) (cake : Int) (ls : List Bk) : Int := if ckE cs ms cake ls = 0 then edE cs ms cake ls else ckE cs ms cake ls
def sfA (cs : List Ch) (ms : List Ma) (cake : Int) (ls : List Bk) : AV := if sfE cs ms cake ls = 0 then stA (stR cs ms ls ls.length []) else .emp
theorem Staff_pure (cs : List Ch) (ms : List Ma) (cake : Int) (ls : List Bk) (hc : cs.length ≤ 9223372036854775807) (hm : ms.length ≤ 9223372036854775807) (hl : ls.length ≤ 9223372036854775807) : Pure Try.prog 30 [houA cs ms cake, .lst 6 (ls.map bkA)] (.tup [sfA cs ms cake ls, .int (sfE cs ms cake ls)]) := by
  have hck := check_pure cs ms cake ls hc hm hl
  unfold sfA sfE
  by_cases h1 : ckE cs ms cake ls = 0
  · rw [if_pos h1]
    rw [h1] at hck
    have hpw := PW.of_ck h1
    have hf := fits_pure hpw.hv hpw.lv
    unfold edE
    cases h2 : fitB cs cake ls with
    | false =>
      rw [h2] at hf
      rw [if_neg (by simp)]
      (refine Spec.of_body Try.func30 rfl (by rw [Try.ntmps30]; simp) 0 (by simp) ?_; rw [Try.results30, Try.ntmps30]; simp only [entry, zipArgs, Nat.reduceAdd])
      repeat (first | apply Wp.seq | apply Wp.block | (apply Run.next; (simp only [push_cast, seval] <;> (try simp (disch := omega) only [wrap_i64, wrap_u8, Int.add_sub_cancel]) <;> exact rfl); (focus ((try simp only [push_cast, seval]) <;> (exact sideT)))) | (apply Run.nil; dsimp only [seqS, thenS, blockS]) | (apply Wp.run; (dsimp only [List.map] <;> exact rfl); (exact rfl)) | (apply Wp.skip; dsimp only [seqS, thenS, blockS]) | (apply Wp.exit; dsimp only [seqS, thenS, blockS]; simp only [reduceIte]))
      (apply Run.pureP; (simp only [push_cast, seval] <;> (try simp (disch := omega) only [wrap_i64, wrap_u8, Int.add_sub_cancel]) <;> exact rfl); (exact (Enters.of Try.func39 rfl rfl)); (exact hck); (focus (simp only [push_cast, seval] <;> first | trivial | assumption | (refine ⟨?_, ?_⟩ <;> assumption) | (simp; done))); (try dsimp only [putA, optG]))
      repeat (first | apply Wp.seq | apply Wp.block | (apply Run.next; (simp only [push_cast, seval] <;> (try simp (disch := omega) only [wrap_i64, wrap_u8, Int.add_sub_cancel]) <;> exact rfl); (focus ((try simp only [push_cast, seval]) <;> (exact sideT)))) | (apply Run.nil; dsimp only [seqS, thenS, blockS]) | (apply Wp.run; (dsimp only [List.map] <;> exact rfl); (exact rfl)) | (apply Wp.skip; dsimp only [seqS, thenS, blockS]) | (apply Wp.exit; dsimp only [seqS, thenS, blockS]; simp only [reduceIte]) | (apply Run.gtrue; (simp only [push_cast, seval] <;> (try simp (disch := omega) only [wrap_i64, wrap_u8, Int.add_sub_cancel]) <;> exact rfl); (simp only [push_cast, seval] <;> (try simp (disch := omega) only [wrap_i64, wrap_u8, Int.add_sub_cancel]) <;> exact rfl)) | (apply Run.gfalse (.bool false); (simp only [push_cast, seval] <;> (try simp (disch := omega) only [wrap_i64, wrap_u8, Int.add_sub_cancel]) <;> exact rfl); dsimp only [S.put, optG]) | (apply Wp.condT; (simp only [push_cast, seval] <;> (try simp (disch := omega) only [wrap_i64, wrap_u8, Int.add_sub_cancel]) <;> exact rfl)) | (apply Wp.condF; (simp only [push_cast, seval] <;> (try simp (disch := omega) only [wrap_i64, wrap_u8, Int.add_sub_cancel]) <;> exact rfl)))
      (apply Run.pureP; (simp only [push_cast, seval] <;> (try simp (disch := omega) only [wrap_i64, wrap_u8, Int.add_sub_cancel]) <;> exact rfl); (exact (Enters.of Try.func57 rfl rfl)); (exact hf); (focus (simp only [push_cast, seval] <;> first | trivial | assumption | (refine ⟨?_, ?_⟩ <;> assumption) | (simp; done))); (try dsimp only [putA, optG]))
      repeat (first | apply Wp.seq | apply Wp.block | (apply Run.next; (simp only [push_cast, seval] <;> (try simp (disch := omega) only [wrap_i64, wrap_u8, Int.add_sub_cancel]) <;> exact rfl); (focus ((try simp only [push_cast, seval]) <;> (exact sideT)))) | (apply Run.nil; dsimp only [seqS, thenS, blockS]) | (apply Wp.run; (dsimp only [List.map] <;> exact rfl); (exact rfl)) | (apply Wp.skip; dsimp only [seqS, thenS, blockS]) | (apply Wp.exit; dsimp only [seqS, thenS, blockS]; simp only [reduceIte]) | (apply Run.gtrue; (simp only [push_cast, seval] <;> (try simp (disch := omega) only [wrap_i64, wrap_u8, Int.add_sub_cancel]) <;> exact rfl); (simp only [push_cast, seval] <;> (try simp (disch := omega) only [wrap_i64, wrap_u8, Int.add_sub_cancel]) <;> exact rfl)) | (apply Run.gfalse (.bool false); (simp only [push_cast, seval] <;> (try simp (disch := omega) only [wrap_i64, wrap_u8, Int.add_sub_cancel]) <;> exact rfl); dsimp only [S.put, optG]) | (apply Wp.condT; (simp only [push_cast, seval] <;> (try simp (disch := omega) only [wrap_i64, wrap_u8, Int.add_sub_cancel]) <;> exact rfl)) | (apply Wp.condF; (simp only [push_cast, seval] <;> (try simp (disch := omega) only [wrap_i64, wrap_u8, Int.add_sub_cancel]) <;> exact rfl)))
      (apply Wp.ret; (try dsimp only [seqS, thenS, blockS]); apply leave0; (exact rfl); (simp only [push_cast, seval] <;> (try simp (disch := omega) only [wrap_i64, wrap_u8, Int.add_sub_cancel]) <;> exact rfl); all_goals (try simp only [push_cast, seval]); (try rfl))
    | true =>
      rw [h2] at hf
      rw [if_pos rfl]
      have hnr := newRota_spec2 hpw
      have hl20 := hpw.lv.l20
      cases h3 : psB cs ms ls with
      | false =>
        rw [if_neg (by simp)]
        (refine Spec.of_body Try.func30 rfl (by rw [Try.ntmps30]; simp) 0 (by simp) ?_; rw [Try.results30, Try.ntmps30]; simp only [entry, zipArgs, Nat.reduceAdd])
        repeat (first | apply Wp.seq | apply Wp.block | (apply Run.next; (simp only [push_cast, seval] <;> (try simp (disch := omega) only [wrap_i64, wrap_u8, Int.add_sub_cancel]) <;> exact rfl); (focus ((try simp only [push_cast, seval]) <;> (exact sideT)))) | (apply Run.nil; dsimp only [seqS, thenS, blockS]) | (apply Wp.run; (dsimp only [List.map] <;> exact rfl); (exact rfl)) | (apply Wp.skip; dsimp only [seqS, thenS, blockS]) | (apply Wp.exit; dsimp only [seqS, thenS, blockS]; simp only [reduceIte]))
        (apply Run.pureP; (simp only [push_cast, seval] <;> (try simp (disch := omega) only [wrap_i64, wrap_u8, Int.add_sub_cancel]) <;> exact rfl); (exact (Enters.of Try.func39 rfl rfl)); (exact hck); (focus (simp only [push_cast, seval] <;> first | trivial | assumption | (refine ⟨?_, ?_⟩ <;> assumption) | (simp; done))); (try dsimp only [putA, optG]))
        repeat (first | apply Wp.seq | apply Wp.block | (apply Run.next; (simp only [push_cast, seval] <;> (try simp (disch := omega) only [wrap_i64, wrap_u8, Int.add_sub_cancel]) <;> exact rfl); (focus ((try simp only [push_cast, seval]) <;> (exact sideT)))) | (apply Run.nil; dsimp only [seqS, thenS, blockS]) | (apply Wp.run; (dsimp only [List.map] <;> exact rfl); (exact rfl)) | (apply Wp.skip; dsimp only [seqS, thenS, blockS]) | (apply Wp.exit; dsimp only [seqS, thenS, blockS]; simp only [reduceIte]) | (apply Run.gtrue; (simp only [push_cast, seval] <;> (try simp (disch := omega) only [wrap_i64, wrap_u8, Int.add_sub_cancel]) <;> exact rfl); (simp only [push_cast, seval] <;> (try simp (disch := omega) only [wrap_i64, wrap_u8, Int.add_sub_cancel]) <;> exact rfl)) | (apply Run.gfalse (.bool false); (simp only [push_cast, seval] <;> (try simp (disch := omega) only [wrap_i64, wrap_u8, Int.add_sub_cancel]) <;> exact rfl); dsimp only [S.put, optG]) | (apply Wp.condT; (simp only [push_cast, seval] <;> (try simp (disch := omega) only [wrap_i64, wrap_u8, Int.add_sub_cancel]) <;> exact rfl)) | (apply Wp.condF; (simp only [push_cast, seval] <;> (try simp (disch := omega) only [wrap_i64, wrap_u8, Int.add_sub_cancel]) <;> exact rfl)))
        (apply Run.pureP; (simp only [push_cast, seval] <;> (try simp (disch := omega) only [wrap_i64, wrap_u8, Int.add_sub_cancel]) <;> exact rfl); (exact (Enters.of Try.func57 rfl rfl)); (exact hf); (focus (simp only [push_cast, seval] <;> first | trivial | assumption | (refine ⟨?_, ?_⟩ <;> assumption) | (simp; done))); (try dsimp only [putA, optG]))
        repeat (first | apply Wp.seq | apply Wp.block | (apply Run.next; (simp only [push_cast, seval] <;> (try simp (disch := omega) only [wrap_i64, wrap_u8, Int.add_sub_cancel]) <;> exact rfl); (focus ((try simp only [push_cast, seval]) <;> (exact sideT)))) | (apply Run.nil; dsimp only [seqS, thenS, blockS]) | (apply Wp.run; (dsimp only [List.map] <;> exact rfl); (exact rfl)) | (apply Wp.skip; dsimp only [seqS, thenS, blockS]) | (apply Wp.exit; dsimp only [seqS, thenS, blockS]; simp only [reduceIte]) | (apply Run.gtrue; (simp only [push_cast, seval] <;> (try simp (disch := omega) only [wrap_i64, wrap_u8, Int.add_sub_cancel]) <;> exact rfl); (simp only [push_cast, seval] <;> (try simp (disch := omega) only [wrap_i64, wrap_u8, Int.add_sub_cancel]) <;> exact rfl)) | (apply Run.gfalse (.bool false); (simp only [push_cast, seval] <;> (try simp (disch := omega) only [wrap_i64, wrap_u8, Int.add_sub_cancel]) <;> exact rfl); dsimp only [S.put, optG]) | (apply Wp.condT; (simp only [push_cast, seval] <;> (try simp (disch := omega) only [wrap_i64, wrap_u8, Int.add_sub_cancel]) <;> exact rfl)) | (apply Wp.condF; (simp only [push_cast, seval] <;> (try simp (disch := omega) only [wrap_i64, wrap_u8, Int.add_sub_cancel]) <;> exact rfl)))
        apply Run.fresh (he := Enters.of Try.func59 rfl rfl) (hc := hnr)
        · exact rfl
        · (simp only [push_cast, seval] <;> (try simp (disch := omega) only [wrap_i64, wrap_u8, Int.add_sub_cancel]) <;> exact rfl)
        · simp [AV.ok, okL, okL_ch, okL_ma, okL_bk]
        · rintro _ _ ⟨rfl, o, ho, rfl⟩
          have hp := possible1_spec hpw ho (stf := List.replicate ls.length (-1)) (by simp) (e0 := ⟨0, .row 3 [houA cs ms cake]⟩) (x6 := .emp) (fun k => by simp [Kind.ok, AV.ok, okL, okL_ch, okL_ma])
          rw [psB_rF hpw ho, h3] at hp
          rw [rotM_shift]
          dsimp only [S.put, optG]
          repeat (first | apply Wp.seq | apply Wp.block | (apply Run.next; (simp only [push_cast, seval] <;> (try simp (disch := omega) only [wrap_i64, wrap_u8, Int.add_sub_cancel]) <;> exact rfl); (focus ((try simp only [push_cast, seval]) <;> (exact sideT)))) | (apply Run.nil; dsimp only [seqS, thenS, blockS]) | (apply Wp.run; (dsimp only [List.map] <;> exact rfl); (exact rfl)) | (apply Wp.skip; dsimp only [seqS, thenS, blockS]) | (apply Wp.exit; dsimp only [seqS, thenS, blockS]; simp only [reduceIte]) | (apply Run.gtrue; (simp only [push_cast, seval] <;> (try simp (disch := omega) only [wrap_i64, wrap_u8, Int.add_sub_cancel]) <;> exact rfl); (simp only [push_cast, seval] <;> (try simp (disch := omega) only [wrap_i64, wrap_u8, Int.add_sub_cancel]) <;> exact rfl)) | (apply Run.gfalse (.bool false); (simp only [push_cast, seval] <;> (try simp (disch := omega) only [wrap_i64, wrap_u8, Int.add_sub_cancel]) <;> exact rfl); dsimp only [S.put, optG]) | (apply Wp.condT; (simp only [push_cast, seval] <;> (try simp (disch := omega) only [wrap_i64, wrap_u8, Int.add_sub_cancel]) <;> exact rfl)) | (apply Wp.condF; (simp only [push_cast, seval] <;> (try simp (disch := omega) only [wrap_i64, wrap_u8, Int.add_sub_cancel]) <;> exact rfl)))
          apply Run.spec (he := Enters.of Try.func60 rfl rfl) (hc := hp)
          · exact rfl
          · exact rfl
          · (simp only [push_cast, seval] <;> (try simp (disch := omega) only [wrap_i64, wrap_u8, Int.add_sub_cancel]) <;> exact rfl)
          · rintro _ _ ⟨rfl, rfl⟩
            dsimp only [S.put, optG]
            repeat (first | apply Wp.seq | apply Wp.block | (apply Run.next; (simp only [push_cast, seval] <;> (try simp (disch := omega) only [wrap_i64, wrap_u8, Int.add_sub_cancel]) <;> exact rfl); (focus ((try simp only [push_cast, seval]) <;> (exact sideT)))) | (apply Run.nil; dsimp only [seqS, thenS, blockS]) | (apply Wp.run; (dsimp only [List.map] <;> exact rfl); (exact rfl)) | (apply Wp.skip; dsimp only [seqS, thenS, blockS]) | (apply Wp.exit; dsimp only [seqS, thenS, blockS]; simp only [reduceIte]) | (apply Run.gtrue; (simp only [push_cast, seval] <;> (try simp (disch := omega) only [wrap_i64, wrap_u8, Int.add_sub_cancel]) <;> exact rfl); (simp only [push_cast, seval] <;> (try simp (disch := omega) only [wrap_i64, wrap_u8, Int.add_sub_cancel]) <;> exact rfl)) | (apply Run.gfalse (.bool false); (simp only [push_cast, seval] <;> (try simp (disch := omega) only [wrap_i64, wrap_u8, Int.add_sub_cancel]) <;> exact rfl); dsimp only [S.put, optG]) | (apply Wp.condT; (simp only [push_cast, seval] <;> (try simp (disch := omega) only [wrap_i64, wrap_u8, Int.add_sub_cancel]) <;> exact rfl)) | (apply Wp.condF; (simp only [push_cast, seval] <;> (try simp (disch := omega) only [wrap_i64, wrap_u8, Int.add_sub_cancel]) <;> exact rfl)))
            (apply Wp.ret; (try dsimp only [seqS, thenS, blockS]); apply leave0; (exact rfl); (simp only [push_cast, seval] <;> (try simp (disch := omega) only [wrap_i64, wrap_u8, Int.add_sub_cancel]) <;> exact rfl); all_goals (try simp only [push_cast, seval]); (try rfl))
      | true =>
        rw [if_pos rfl, if_pos rfl]
        have h3' := h3
        unfold psB at h3'
        cases hst : stR cs ms ls ls.length [] with
        | none => rw [hst] at h3'; cases h3'
        | some s =>
          obtain ⟨a, ha, hs, hx⟩ := stR_some hst
          have ham : ∀ i, i < ls.length → a i < ms.length := fun i hi => (ha.ok i hi).1
          have hm6 := hpw.hv.m6
          (refine Spec.of_body Try.func30 rfl (by rw [Try.ntmps30]; simp) 0 (by simp) ?_; rw [Try.results30, Try.ntmps30]; simp only [entry, zipArgs, Nat.reduceAdd])
          repeat (first | apply Wp.seq | apply Wp.block | (apply Run.next; (simp only [push_cast, seval] <;> (try simp (disch := omega) only [wrap_i64, wrap_u8, Int.add_sub_cancel]) <;> exact rfl); (focus ((try simp only [push_cast, seval]) <;> (exact sideT)))) | (apply Run.nil; dsimp only [seqS, thenS, blockS]) | (apply Wp.run; (dsimp only [List.map] <;> exact rfl); (exact rfl)) | (apply Wp.skip; dsimp only [seqS, thenS, blockS]) | (apply Wp.exit; dsimp only [seqS, thenS, blockS]; simp only [reduceIte]))
          (apply Run.pureP; (simp only [push_cast, seval] <;> (try simp (disch := omega) only [wrap_i64, wrap_u8, Int.add_sub_cancel]) <;> exact rfl); (exact (Enters.of Try.func39 rfl rfl)); (exact hck); (focus (simp only [push_cast, seval] <;> first | trivial | assumption | (refine ⟨?_, ?_⟩ <;> assumption) | (simp; done))); (try dsimp only [putA, optG]))
          repeat (first | apply Wp.seq | apply Wp.block | (apply Run.next; (simp only [push_cast, seval] <;> (try simp (disch := omega) only [wrap_i64, wrap_u8, Int.add_sub_cancel]) <;> exact rfl); (focus ((try simp only [push_cast, seval]) <;> (exact sideT)))) | (apply Run.nil; dsimp only [seqS, thenS, blockS]) | (apply Wp.run; (dsimp only [List.map] <;> exact rfl); (exact rfl)) | (apply Wp.skip; dsimp only [seqS, thenS, blockS]) | (apply Wp.exit; dsimp only [seqS, thenS, blockS]; simp only [reduceIte]) | (apply Run.gtrue; (simp only [push_cast, seval] <;> (try simp (disch := omega) only [wrap_i64, wrap_u8, Int.add_sub_cancel]) <;> exact rfl); (simp only [push_cast, seval] <;> (try simp (disch := omega) only [wrap_i64, wrap_u8, Int.add_sub_cancel]) <;> exact rfl)) | (apply Run.gfalse (.bool false); (simp only [push_cast, seval] <;> (try simp (disch := omega) only [wrap_i64, wrap_u8, Int.add_sub_cancel]) <;> exact rfl); dsimp only [S.put, optG]) | (apply Wp.condT; (simp only [push_cast, seval] <;> (try simp (disch := omega) only [wrap_i64, wrap_u8, Int.add_sub_cancel]) <;> exact rfl)) | (apply Wp.condF; (simp only [push_cast, seval] <;> (try simp (disch := omega) only [wrap_i64, wrap_u8, Int.add_sub_cancel]) <;> exact rfl)))
          (apply Run.pureP; (simp only [push_cast, seval] <;> (try simp (disch := omega) only [wrap_i64, wrap_u8, Int.add_sub_cancel]) <;> exact rfl); (exact (Enters.of Try.func57 rfl rfl)); (exact hf); (focus (simp only [push_cast, seval] <;> first | trivial | assumption | (refine ⟨?_, ?_⟩ <;> assumption) | (simp; done))); (try dsimp only [putA, optG]))
          repeat (first | apply Wp.seq | apply Wp.block | (apply Run.next; (simp only [push_cast, seval] <;> (try simp (disch := omega) only [wrap_i64, wrap_u8, Int.add_sub_cancel]) <;> exact rfl); (focus ((try simp only [push_cast, seval]) <;> (exact sideT)))) | (apply Run.nil; dsimp only [seqS, thenS, blockS]) | (apply Wp.run; (dsimp only [List.map] <;> exact rfl); (exact rfl)) | (apply Wp.skip; dsimp only [seqS, thenS, blockS]) | (apply Wp.exit; dsimp only [seqS, thenS, blockS]; simp only [reduceIte]) | (apply Run.gtrue; (simp only [push_cast, seval] <;> (try simp (disch := omega) only [wrap_i64, wrap_u8, Int.add_sub_cancel]) <;> exact rfl); (simp only [push_cast, seval] <;> (try simp (disch := omega) only [wrap_i64, wrap_u8, Int.add_sub_cancel]) <;> exact rfl)) | (apply Run.gfalse (.bool false); (simp only [push_cast, seval] <;> (try simp (disch := omega) only [wrap_i64, wrap_u8, Int.add_sub_cancel]) <;> exact rfl); dsimp only [S.put, optG]) | (apply Wp.condT; (simp only [push_cast, seval] <;> (try simp (disch := omega) only [wrap_i64, wrap_u8, Int.add_sub_cancel]) <;> exact rfl)) | (apply Wp.condF; (simp only [push_cast, seval] <;> (try simp (disch := omega) only [wrap_i64, wrap_u8, Int.add_sub_cancel]) <;> exact rfl)))
          apply Run.fresh (he := Enters.of Try.func59 rfl rfl) (hc := hnr)
          · exact rfl
          · (simp only [push_cast, seval] <;> (try simp (disch := omega) only [wrap_i64, wrap_u8, Int.add_sub_cancel]) <;> exact rfl)
          · simp [AV.ok, okL, okL_ch, okL_ma, okL_bk]
          · rintro _ _ ⟨rfl, o, ho, rfl⟩
            have he0 : ∀ k, Kind.ok k (⟨0, .row 3 [houA cs ms cake]⟩ : Ent).kind := fun k => by simp [Kind.ok, AV.ok, okL, okL_ch, okL_ma]
            have hp := possible1_spec hpw ho (stf := List.replicate ls.length (-1)) (by simp) (e0 := ⟨0, .row 3 [houA cs ms cake]⟩) (x6 := .emp) he0
            rw [psB_rF hpw ho, h3] at hp
            rw [rotM_shift]
            dsimp only [S.put, optG]
            repeat (first | apply Wp.seq | apply Wp.block | (apply Run.next; (simp only [push_cast, seval] <;> (try simp (disch := omega) only [wrap_i64, wrap_u8, Int.add_sub_cancel]) <;> exact rfl); (focus ((try simp only [push_cast, seval]) <;> (exact sideT)))) | (apply Run.nil; dsimp only [seqS, thenS, blockS]) | (apply Wp.run; (dsimp only [List.map] <;> exact rfl); (exact rfl)) | (apply Wp.skip; dsimp only [seqS, thenS, blockS]) | (apply Wp.exit; dsimp only [seqS, thenS, blockS]; simp only [reduceIte]) | (apply Run.gtrue; (simp only [push_cast, seval] <;> (try simp (disch := omega) only [wrap_i64, wrap_u8, Int.add_sub_cancel]) <;> exact rfl); (simp only [push_cast, seval] <;> (try simp (disch := omega) only [wrap_i64, wrap_u8, Int.add_sub_cancel]) <;> exact rfl)) | (apply Run.gfalse (.bool false); (simp only [push_cast, seval] <;> (try simp (disch := omega) only [wrap_i64, wrap_u8, Int.add_sub_cancel]) <;> exact rfl); dsimp only [S.put, optG]) | (apply Wp.condT; (simp only [push_cast, seval] <;> (try simp (disch := omega) only [wrap_i64, wrap_u8, Int.add_sub_cancel]) <;> exact rfl)) | (apply Wp.condF; (simp only [push_cast, seval] <;> (try simp (disch := omega) only [wrap_i64, wrap_u8, Int.add_sub_cancel]) <;> exact rfl)))
            apply Run.spec (he := Enters.of Try.func60 rfl rfl) (hc := hp)
            · exact rfl
            · exact rfl
            · (simp only [push_cast, seval] <;> (try simp (disch := omega) only [wrap_i64, wrap_u8, Int.add_sub_cancel]) <;> exact rfl)
            · rintro _ _ ⟨rfl, rfl⟩
              dsimp only [S.put, optG]
              repeat (first | apply Wp.seq | apply Wp.block | (apply Run.next; (simp only [push_cast, seval] <;> (try simp (disch := omega) only [wrap_i64, wrap_u8, Int.add_sub_cancel]) <;> exact rfl); (focus ((try simp only [push_cast, seval]) <;> (exact sideT)))) | (apply Run.nil; dsimp only [seqS, thenS, blockS]) | (apply Wp.run; (dsimp only [List.map] <;> exact rfl); (exact rfl)) | (apply Wp.skip; dsimp only [seqS, thenS, blockS]) | (apply Wp.exit; dsimp only [seqS, thenS, blockS]; simp only [reduceIte]) | (apply Run.gtrue; (simp only [push_cast, seval] <;> (try simp (disch := omega) only [wrap_i64, wrap_u8, Int.add_sub_cancel]) <;> exact rfl); (simp only [push_cast, seval] <;> (try simp (disch := omega) only [wrap_i64, wrap_u8, Int.add_sub_cancel]) <;> exact rfl)) | (apply Run.gfalse (.bool false); (simp only [push_cast, seval] <;> (try simp (disch := omega) only [wrap_i64, wrap_u8, Int.add_sub_cancel]) <;> exact rfl); dsimp only [S.put, optG]) | (apply Wp.condT; (simp only [push_cast, seval] <;> (try simp (disch := omega) only [wrap_i64, wrap_u8, Int.add_sub_cancel]) <;> exact rfl)) | (apply Wp.condF; (simp only [push_cast, seval] <;> (try simp (disch := omega) only [wrap_i64, wrap_u8, Int.add_sub_cancel]) <;> exact rfl)))
              refine Wp.loop (fun (i : Nat) => { t := [(7, .optr 4 0 0 0), (26, .int ls.length), (27, .int i)], m := ⟨0, .row 3 [houA cs ms cake]⟩ :: rotM 1 cs ms cake ls o (sI ls.length a i) .any, n := 53 }) (fun i => i ≤ ls.length) (fun i => ls.length - i) 0 ?_ ?_ ?_
              · rw [sI_0]
                (refine Le.of ?_ ?_ rfl rfl <;> (try simp only [push_cast, seval]) <;> (try (with_reducible rfl)))
                all_goals rfl
              · simp
              · intro i hi
                have hsl := sI_len a hi
                repeat (first | apply Wp.seq | apply Wp.block | (apply Run.next; (simp only [push_cast, seval] <;> (try simp (disch := omega) only [wrap_i64, wrap_u8, Int.add_sub_cancel]) <;> exact rfl); (focus ((try simp only [push_cast, seval]) <;> (exact sideT)))) | (apply Run.nil; dsimp only [seqS, thenS, blockS]) | (apply Wp.run; (dsimp only [List.map] <;> exact rfl); (exact rfl)) | (apply Wp.skip; dsimp only [seqS, thenS, blockS]) | (apply Wp.exit; dsimp only [seqS, thenS, blockS]; simp only [reduceIte]))
                (apply Wp.cond; (simp only [push_cast, seval] <;> (try simp (disch := omega) only [wrap_i64, wrap_u8, Int.add_sub_cancel]) <;> exact rfl))
                · intro hc1
                  simp only [decide_eq_true_eq, Int.ofNat_lt] at hc1
                  have hset := sI_set a hc1
                  have hai := ham i hc1
                  have hpa := fun v hv => poss_at hpw ho ha hx (i := i) (v := v) hc1 hv
                  generalize hS : sI ls.length a i = Sx at hsl hset hpa
                  have hgs : ∀ v : Int, (Sx.set i v).getD i 0 = v := fun v => getD_set_self _ _ _ (by omega)
                  have hss : ∀ v w : Int, (Sx.set i v).set i w = Sx.set i w := fun v w => List.set_set _
                  repeat (first | apply Wp.seq | apply Wp.block | (apply Run.next; (simp only [push_cast, seval, rotM, hsl, hgs, hss] <;> (try simp (disch := omega) only [wrap_i64, wrap_u8, Int.add_sub_cancel]) <;> exact rfl); (focus ((try simp only [push_cast, seval, rotM, hsl, hgs, hss]) <;> (exact sideT)))) | (apply Run.nil; dsimp only [seqS, thenS, blockS]) | (apply Wp.run; (dsimp only [List.map] <;> exact rfl); (exact rfl)) | (apply Wp.skip; dsimp only [seqS, thenS, blockS]) | (apply Wp.exit; dsimp only [seqS, thenS, blockS]; simp only [reduceIte]))
                  refine Wp.loop (fun (v : Nat) => { t := [(7, .optr 4 0 0 0), (26, .int ls.length), (27, .int i), (8, .int i)], m := ⟨0, .row 3 [houA cs ms cake]⟩ :: rotM 1 cs ms cake ls o (Sx.set i (v : Int)) .any, n := 53 }) (fun v => v ≤ a i) (fun v => a i - v) 0 ?_ ?_ ?_
                  · (refine Le.of ?_ ?_ rfl rfl <;> (try simp only [push_cast, seval, rotM, hsl, hgs, hss]) <;> (try (with_reducible rfl)))
                    all_goals rfl
                  · simp
                  · intro v hv
                    have hpv := possible1_spec hpw ho (stf := Sx.set i (v : Int)) (by simp; omega) (e0 := ⟨0, .row 3 [houA cs ms cake]⟩) (x6 := .any) he0
                    rw [hpa v hv] at hpv
                    repeat (first | apply Wp.seq | apply Wp.block | (apply Run.next; (simp only [push_cast, seval, rotM, hsl, hgs, hss] <;> (try simp (disch := omega) only [wrap_i64, wrap_u8, Int.add_sub_cancel]) <;> exact rfl); (focus ((try simp only [push_cast, seval, rotM, hsl, hgs, hss]) <;> (exact sideT)))) | (apply Run.nil; dsimp only [seqS, thenS, blockS]) | (apply Wp.run; (dsimp only [List.map] <;> exact rfl); (exact rfl)) | (apply Wp.skip; dsimp only [seqS, thenS, blockS]) | (apply Wp.exit; dsimp only [seqS, thenS, blockS]; simp only [reduceIte]))
                    apply Run.spec (he := Enters.of Try.func60 rfl rfl) (hc := hpv)
                    · exact rfl
                    · exact rfl
                    · (simp only [push_cast, seval, rotM, hsl, hgs, hss] <;> (try simp (disch := omega) only [wrap_i64, wrap_u8, Int.add_sub_cancel]) <;> exact rfl)
                    · rintro _ _ ⟨rfl, rfl⟩
                      dsimp only [S.put, optG]
                      repeat (first | apply Wp.seq | apply Wp.block | (apply Run.next; (simp only [push_cast, seval, rotM, hsl, hgs, hss] <;> (try simp (disch := omega) only [wrap_i64, wrap_u8, Int.add_sub_cancel]) <;> exact rfl); (focus ((try simp only [push_cast, seval, rotM, hsl, hgs, hss]) <;> (exact sideT)))) | (apply Run.nil; dsimp only [seqS, thenS, blockS]) | (apply Wp.run; (dsimp only [List.map] <;> exact rfl); (exact rfl)) | (apply Wp.skip; dsimp only [seqS, thenS, blockS]) | (apply Wp.exit; dsimp only [seqS, thenS, blockS]; simp only [reduceIte]))
                      (apply Wp.cond; (simp only [push_cast, seval, rotM, hsl, hgs, hss] <;> (try simp (disch := omega) only [wrap_i64, wrap_u8, Int.add_sub_cancel]) <;> exact rfl))
                      · intro h5
                        simp only [Bool.not_eq_true', decide_eq_false_iff_not] at h5
                        repeat (first | apply Wp.seq | apply Wp.block | (apply Run.next; (simp only [push_cast, seval, rotM, hsl, hgs, hss] <;> (try simp (disch := omega) only [wrap_i64, wrap_u8, Int.add_sub_cancel]) <;> exact rfl); (focus ((try simp only [push_cast, seval, rotM, hsl, hgs, hss]) <;> (exact sideT)))) | (apply Run.nil; dsimp only [seqS, thenS, blockS]) | (apply Wp.run; (dsimp only [List.map] <;> exact rfl); (exact rfl)) | (apply Wp.skip; dsimp only [seqS, thenS, blockS]) | (apply Wp.exit; dsimp only [seqS, thenS, blockS]; simp only [reduceIte]))
                        refine ⟨v + 1, ?_, by omega, by omega⟩
                        (refine Le.of ?_ ?_ rfl rfl <;> (try simp only [push_cast, seval, rotM, hsl, hgs, hss]) <;> (try (with_reducible rfl)))
                      · intro h5
                        simp only [Bool.not_eq_false', decide_eq_true_eq] at h5
                        subst h5
                        rw [hset]
                        repeat (first | apply Wp.seq | apply Wp.block | (apply Run.next; (simp only [push_cast, seval, rotM, hsl, hgs, hss] <;> (try simp (disch := omega) only [wrap_i64, wrap_u8, Int.add_sub_cancel]) <;> exact rfl); (focus ((try simp only [push_cast, seval, rotM, hsl, hgs, hss]) <;> (exact sideT)))) | (apply Run.nil; dsimp only [seqS, thenS, blockS]) | (apply Wp.run; (dsimp only [List.map] <;> exact rfl); (exact rfl)) | (apply Wp.skip; dsimp only [seqS, thenS, blockS]) | (apply Wp.exit; dsimp only [seqS, thenS, blockS]; simp only [reduceIte]))
                        refine ⟨i + 1, ?_, by omega, by omega⟩
                        (refine Le.of ?_ ?_ rfl rfl <;> (try simp only [push_cast, seval, rotM, hsl, hgs, hss]) <;> (try (with_reducible rfl)))
                · intro hc1
                  simp only [decide_eq_false_iff_not, Int.ofNat_lt] at hc1
                  obtain rfl : i = ls.length := by omega
                  have hal : (aL ls.length a).take ls.length = aL ls.length a := List.take_of_length_le (by rw [aL_len]; exact Nat.le_refl _)
                  have hall := aL_len ls.length a
                  rw [sI_all]
                  repeat (first | apply Wp.seq | apply Wp.block | (apply Run.next; (simp only [push_cast, seval, rotM, hall] <;> (try simp (disch := omega) only [wrap_i64, wrap_u8, Int.add_sub_cancel]) <;> exact rfl); (focus ((try simp only [push_cast, seval, rotM, hall]) <;> (exact sideT)))) | (apply Run.nil; dsimp only [seqS, thenS, blockS]) | (apply Wp.run; (dsimp only [List.map] <;> exact rfl); (exact rfl)) | (apply Wp.skip; dsimp only [seqS, thenS, blockS]) | (apply Wp.exit; dsimp only [seqS, thenS, blockS]; simp only [reduceIte]))
                  (apply Wp.freeze 4; (simp only [push_cast, seval, rotM, hall] <;> (try simp (disch := omega) only [wrap_i64, wrap_u8, Int.add_sub_cancel]) <;> exact rfl); (simp only [push_cast, seval, rotM, hall] <;> (try simp (disch := omega) only [wrap_i64, wrap_u8, Int.add_sub_cancel]) <;> exact rfl); (focus (try simp only [push_cast, seval, rotM, hall]); (try ((exact sideT)))); (focus ((exact sideT))))
                  (apply Wp.ret; (try dsimp only [seqS, thenS, blockS]); apply leave0; (exact rfl); (simp only [push_cast, seval, rotM, hall] <;> (try simp (disch := omega) only [wrap_i64, wrap_u8, Int.add_sub_cancel]) <;> exact rfl); all_goals (try simp only [push_cast, seval, rotM, hall]); (try rfl))
                  rw [hal, hs]; rfl
  · rw [if_neg h1]
    have hne : decide (ckE cs ms cake ls = 0) = false := decide_eq_false h1
    rw [if_neg h1]
    (refine Spec.of_body Try.func30 rfl (by rw [Try.ntmps30]; simp) 0 (by simp) ?_; rw [Try.results30, Try.ntmps30]; simp only [entry, zipArgs, Nat.reduceAdd])
    repeat (first | apply Wp.seq | apply Wp.block | (apply Run.next; (simp only [push_cast, seval, hne] <;> (try simp (disch := omega) only [wrap_i64, wrap_u8, Int.add_sub_cancel]) <;> exact rfl); (focus ((try simp only [push_cast, seval, hne]) <;> (exact sideT)))) | (apply Run.nil; dsimp only [seqS, thenS, blockS]) | (apply Wp.run; (dsimp only [List.map] <;> exact rfl); (exact rfl)) | (apply Wp.skip; dsimp only [seqS, thenS, blockS]) | (apply Wp.exit; dsimp only [seqS, thenS, blockS]; simp only [reduceIte]))
    (apply Run.pureP; (simp only [push_cast, seval, hne] <;> (try simp (disch := omega) only [wrap_i64, wrap_u8, Int.add_sub_cancel]) <;> exact rfl); (exact (Enters.of Try.func39 rfl rfl)); (exact hck); (focus (simp only [push_cast, seval, hne] <;> first | trivial | assumption | (refine ⟨?_, ?_⟩ <;> assumption) | (simp; done))); (try dsimp only [putA, optG]))
    repeat (first | apply Wp.seq | apply Wp.block | (apply Run.next; (simp only [push_cast, seval, hne] <;> (try simp (disch := omega) only [wrap_i64, wrap_u8, Int.add_sub_cancel]) <;> exact rfl); (focus ((try simp only [push_cast, seval, hne]) <;> (exact sideT)))) | (apply Run.nil; dsimp only [seqS, thenS, blockS]) | (apply Wp.run; (dsimp only [List.map] <;> exact rfl); (exact rfl)) | (apply Wp.skip; dsimp only [seqS, thenS, blockS]) | (apply Wp.exit; dsimp only [seqS, thenS, blockS]; simp only [reduceIte]) | (apply Run.gtrue; (simp only [push_cast, seval, hne] <;> (try simp (disch := omega) only [wrap_i64, wrap_u8, Int.add_sub_cancel]) <;> exact rfl); (simp only [push_cast, seval, hne] <;> (try simp (disch := omega) only [wrap_i64, wrap_u8, Int.add_sub_cancel]) <;> exact rfl)) | (apply Run.gfalse (.bool false); (simp only [push_cast, seval, hne] <;> (try simp (disch := omega) only [wrap_i64, wrap_u8, Int.add_sub_cancel]) <;> exact rfl); dsimp only [S.put, optG]) | (apply Wp.condT; (simp only [push_cast, seval, hne] <;> (try simp (disch := omega) only [wrap_i64, wrap_u8, Int.add_sub_cancel]) <;> exact rfl)) | (apply Wp.condF; (simp only [push_cast, seval, hne] <;> (try simp (disch := omega) only [wrap_i64, wrap_u8, Int.add_sub_cancel]) <;> exact rfl)))
    (apply Wp.ret; (try dsimp only [seqS, thenS, blockS]); apply leave0; (exact rfl); (simp only [push_cast, seval, hne] <;> (try simp (disch := omega) only [wrap_i64, wrap_u8, Int.add_sub_cancel]) <;> exact rfl); all_goals (try simp only [push_cast, seval, hne]); (try rfl))
end Go.Proofs.Try
set_option maxHeartbeats 8000000
namespace Go.Proofs.Try
open Go.Vg
theorem memI {l : List Int} {k : Nat} (h : k < l.length) : l.getD k 0 ∈ l := by simp [h]
theorem findI {l : List Int} {p : Int → Bool} {k : Nat} (hk : k < l.length) (h1 : ∀ j, j < k → p (l.getD j 0) = false) (h2 : p (l.getD k 0) = true) : l.any p = true ∧ l.findIdx p = k := by
  have e : ∀ j (hj : j < l.length), l.getD j 0 = l[j] := fun j hj => by simp [hj]
  refine ⟨List.any_eq_true.2 ⟨l[k], List.getElem_mem hk, by rw [← e k hk]; exact h2⟩, ?_⟩
  rw [List.findIdx_eq hk]
  refine ⟨by rw [← e k hk]; exact h2, fun j hj => ?_⟩
  have := h1 j hj
  rw [e j (by omega)] at this
  exact this
theorem anyNoneI {l : List Int} {p : Int → Bool} (h : ∀ j, j < l.length → p (l.getD j 0) = false) : l.any p = false := by
  rw [List.any_eq_false]
  intro x hx
  obtain ⟨i, hi, rfl⟩ := List.getElem_of_mem hx
  have := h i hi
  simp [hi] at this
  simp [this]
theorem indexFuncI (l : List Int) (g : FuncId) (caps : List AV) (p : Int → Bool) (hg : Enters Try.prog g) (hk : okL 0 caps) (hcv : ∀ m, caps.map (view m) = caps ∧ caps.map (view2 m) = caps) (hp : ∀ x ∈ l, Pure Try.prog g (AV.int x :: caps) (.bool (p x))) (hl : l.length ≤ 9223372036854775807) :
    Pure Try.prog 92 [.ints l, .clo g caps] (.int (if l.any p then (l.findIdx p : Int) else -1)) := by
  (refine Spec.of_body Try.func92 rfl (by rw [Try.ntmps92]; simp) 0 (by simp) ?_; rw [Try.results92, Try.ntmps92]; simp only [entry, zipArgs, Nat.reduceAdd])
  repeat (first | apply Wp.seq | apply Wp.block | (apply Run.next; (simp only [push_cast, seval, hcv, List.map_append] <;> (try simp (disch := omega) only [wrap_i64, wrap_u8, Int.add_sub_cancel]) <;> exact rfl); (focus ((try simp only [push_cast, seval, hcv, List.map_append]) <;> (exact sideT)))) | (apply Run.nil; dsimp only [seqS, thenS, blockS]) | (apply Wp.run; (dsimp only [List.map] <;> exact rfl); (exact rfl)) | (apply Wp.skip; dsimp only [seqS, thenS, blockS]) | (apply Wp.exit; dsimp only [seqS, thenS, blockS]; simp only [reduceIte]))
  refine Wp.loop (fun k : Nat => { t := [(0, .ints l), (1, .clo g caps), (7, .int l.length), (8, .int k)], m := [], n := 19 }) (fun k => k ≤ l.length ∧ ∀ j, j < k → p (l.getD j 0) = false) (fun k => l.length - k) 0 ?_ ?_ ?_
  · (refine Le.of ?_ ?_ rfl rfl <;> (try simp only [push_cast, seval, hcv, List.map_append]) <;> (try (with_reducible rfl)))
  · simp
  · rintro k ⟨hk1, hk2⟩
    repeat (first | apply Wp.seq | apply Wp.block | (apply Run.next; (simp only [push_cast, seval, hcv, List.map_append] <;> (try simp (disch := omega) only [wrap_i64, wrap_u8, Int.add_sub_cancel]) <;> exact rfl); (focus ((try simp only [push_cast, seval, hcv, List.map_append]) <;> (exact sideT)))) | (apply Run.nil; dsimp only [seqS, thenS, blockS]) | (apply Wp.run; (dsimp only [List.map] <;> exact rfl); (exact rfl)) | (apply Wp.skip; dsimp only [seqS, thenS, blockS]) | (apply Wp.exit; dsimp only [seqS, thenS, blockS]; simp only [reduceIte]))
    (apply Wp.cond; (simp only [push_cast, seval, hcv, List.map_append] <;> (try simp (disch := omega) only [wrap_i64, wrap_u8, Int.add_sub_cancel]) <;> exact rfl))
    · (intro hc; try simp only [decide_eq_true_eq, decide_eq_false_iff_not, Bool.and_eq_true, Bool.or_eq_true, Bool.not_eq_true, Bool.not_eq_false, Bool.not_eq_true', Bool.not_eq_false', Bool.and_eq_false_iff, Bool.or_eq_false_iff, Int.not_lt, Int.not_le, Int.ofNat_lt, Int.ofNat_le] at hc)
      have hpk := hp _ (memI hc)
      generalize hx : l.getD k 0 = x at hpk
      repeat (first | apply Wp.seq | apply Wp.block | (apply Run.next; (simp only [push_cast, seval, hcv, List.map_append, hx] <;> (try simp (disch := omega) only [wrap_i64, wrap_u8, Int.add_sub_cancel]) <;> exact rfl); (focus ((try simp only [push_cast, seval, hcv, List.map_append, hx]) <;> (exact sideT)))) | (apply Run.nil; dsimp only [seqS, thenS, blockS]) | (apply Wp.run; (dsimp only [List.map] <;> exact rfl); (exact rfl)) | (apply Wp.skip; dsimp only [seqS, thenS, blockS]) | (apply Wp.exit; dsimp only [seqS, thenS, blockS]; simp only [reduceIte]))
      (apply Run.pureP; (simp only [push_cast, seval, hcv, List.map_append, hx] <;> (try simp (disch := omega) only [wrap_i64, wrap_u8, Int.add_sub_cancel]) <;> exact rfl); (exact hg); (exact hpk); (focus (simp only [push_cast, seval, hcv, List.map_append, hx] <;> first | trivial | assumption | (refine ⟨?_, ?_⟩ <;> assumption) | (simp; done))); (try dsimp only [putA, optG]))
      repeat (first | apply Wp.seq | apply Wp.block | (apply Run.next; (simp only [push_cast, seval, hcv, List.map_append, hx] <;> (try simp (disch := omega) only [wrap_i64, wrap_u8, Int.add_sub_cancel]) <;> exact rfl); (focus ((try simp only [push_cast, seval, hcv, List.map_append, hx]) <;> (exact sideT)))) | (apply Run.nil; dsimp only [seqS, thenS, blockS]) | (apply Wp.run; (dsimp only [List.map] <;> exact rfl); (exact rfl)) | (apply Wp.skip; dsimp only [seqS, thenS, blockS]) | (apply Wp.exit; dsimp only [seqS, thenS, blockS]; simp only [reduceIte]))
      (apply Wp.cond; (simp only [push_cast, seval, hcv, List.map_append, hx] <;> (try simp (disch := omega) only [wrap_i64, wrap_u8, Int.add_sub_cancel]) <;> exact rfl))
      · intro h2
        rw [← hx] at h2
        obtain ⟨e1, e2⟩ := findI hc hk2 h2
        repeat (first | apply Wp.seq | apply Wp.block | (apply Run.next; (simp only [push_cast, seval, hcv, List.map_append, hx] <;> (try simp (disch := omega) only [wrap_i64, wrap_u8, Int.add_sub_cancel]) <;> exact rfl); (focus ((try simp only [push_cast, seval, hcv, List.map_append, hx]) <;> (exact sideT)))) | (apply Run.nil; dsimp only [seqS, thenS, blockS]) | (apply Wp.run; (dsimp only [List.map] <;> exact rfl); (exact rfl)) | (apply Wp.skip; dsimp only [seqS, thenS, blockS]) | (apply Wp.exit; dsimp only [seqS, thenS, blockS]; simp only [reduceIte]))
        (apply Wp.ret; (try dsimp only [seqS, thenS, blockS]); apply leave0; (exact rfl); (simp only [push_cast, seval, hcv, List.map_append, hx] <;> (try simp (disch := omega) only [wrap_i64, wrap_u8, Int.add_sub_cancel]) <;> exact rfl); all_goals (try simp only [push_cast, seval, hcv, List.map_append, hx]); (try rfl))
        rw [e1, e2]; rfl
      · intro h2
        repeat (first | apply Wp.seq | apply Wp.block | (apply Run.next; (simp only [push_cast, seval, hcv, List.map_append, hx] <;> (try simp (disch := omega) only [wrap_i64, wrap_u8, Int.add_sub_cancel]) <;> exact rfl); (focus ((try simp only [push_cast, seval, hcv, List.map_append, hx]) <;> (exact sideT)))) | (apply Run.nil; dsimp only [seqS, thenS, blockS]) | (apply Wp.run; (dsimp only [List.map] <;> exact rfl); (exact rfl)) | (apply Wp.skip; dsimp only [seqS, thenS, blockS]) | (apply Wp.exit; dsimp only [seqS, thenS, blockS]; simp only [reduceIte]))
        refine ⟨k + 1, ?_, ⟨by omega, fun j hj => ?_⟩, by omega⟩
        · (refine Le.of ?_ ?_ rfl rfl <;> (try simp only [push_cast, seval, hcv, List.map_append, hx]) <;> (try (with_reducible rfl)))
        · by_cases hjk : j = k
          · subst hjk; rw [hx]; exact h2
          · exact hk2 j (by omega)
    · (intro hc; try simp only [decide_eq_true_eq, decide_eq_false_iff_not, Bool.and_eq_true, Bool.or_eq_true, Bool.not_eq_true, Bool.not_eq_false, Bool.not_eq_true', Bool.not_eq_false', Bool.and_eq_false_iff, Bool.or_eq_false_iff, Int.not_lt, Int.not_le, Int.ofNat_lt, Int.ofNat_le] at hc)
      repeat (first | apply Wp.seq | apply Wp.block | (apply Run.next; (simp only [push_cast, seval, hcv, List.map_append] <;> (try simp (disch := omega) only [wrap_i64, wrap_u8, Int.add_sub_cancel]) <;> exact rfl); (focus ((try simp only [push_cast, seval, hcv, List.map_append]) <;> (exact sideT)))) | (apply Run.nil; dsimp only [seqS, thenS, blockS]) | (apply Wp.run; (dsimp only [List.map] <;> exact rfl); (exact rfl)) | (apply Wp.skip; dsimp only [seqS, thenS, blockS]) | (apply Wp.exit; dsimp only [seqS, thenS, blockS]; simp only [reduceIte]))
      obtain rfl : k = l.length := by omega
      have e1 := anyNoneI hk2
      (apply Wp.ret; (try dsimp only [seqS, thenS, blockS]); apply leave0; (exact rfl); (simp only [push_cast, seval, hcv, List.map_append] <;> (try simp (disch := omega) only [wrap_i64, wrap_u8, Int.add_sub_cancel]) <;> exact rfl); all_goals (try simp only [push_cast, seval, hcv, List.map_append]); (try rfl))
      rw [e1]; rfl
theorem containsFuncI (l : List Int) (g : FuncId) (caps : List AV) (p : Int → Bool) (hg : Enters Try.prog g) (hk : okL 0 caps) (hcv : ∀ m, caps.map (view m) = caps ∧ caps.map (view2 m) = caps) (hp : ∀ x ∈ l, Pure Try.prog g (AV.int x :: caps) (.bool (p x))) (hl : l.length ≤ 9223372036854775807) :
    Pure Try.prog 63 [.ints l, .clo g caps] (.bool (l.any p)) := by
  (refine Spec.of_body Try.func63 rfl (by rw [Try.ntmps63]; simp) 0 (by simp) ?_; rw [Try.results63, Try.ntmps63]; simp only [entry, zipArgs, Nat.reduceAdd])
  repeat (first | apply Wp.seq | apply Wp.block | (apply Run.next; (simp only [push_cast, seval, hcv, List.map_append] <;> (try simp (disch := omega) only [wrap_i64, wrap_u8, Int.add_sub_cancel]) <;> exact rfl); (focus ((try simp only [push_cast, seval, hcv, List.map_append]) <;> (exact sideT)))) | (apply Run.nil; dsimp only [seqS, thenS, blockS]) | (apply Wp.run; (dsimp only [List.map] <;> exact rfl); (exact rfl)) | (apply Wp.skip; dsimp only [seqS, thenS, blockS]) | (apply Wp.exit; dsimp only [seqS, thenS, blockS]; simp only [reduceIte]))
  (apply Run.pureP; (simp only [push_cast, seval, hcv, List.map_append] <;> (try simp (disch := omega) only [wrap_i64, wrap_u8, Int.add_sub_cancel]) <;> exact rfl); (exact (Enters.of Try.func92 rfl rfl)); (exact indexFuncI l g caps p hg hk hcv hp hl); (focus (simp only [push_cast, seval, hcv, List.map_append] <;> first | trivial | assumption | (refine ⟨?_, ?_⟩ <;> assumption) | (simp; done))); (try dsimp only [putA, optG]))
  repeat (first | apply Wp.seq | apply Wp.block | (apply Run.next; (simp only [push_cast, seval, hcv, List.map_append] <;> (try simp (disch := omega) only [wrap_i64, wrap_u8, Int.add_sub_cancel]) <;> exact rfl); (focus ((try simp only [push_cast, seval, hcv, List.map_append]) <;> (exact sideT)))) | (apply Run.nil; dsimp only [seqS, thenS, blockS]) | (apply Wp.run; (dsimp only [List.map] <;> exact rfl); (exact rfl)) | (apply Wp.skip; dsimp only [seqS, thenS, blockS]) | (apply Wp.exit; dsimp only [seqS, thenS, blockS]; simp only [reduceIte]))
  (apply Wp.ret; (try dsimp only [seqS, thenS, blockS]); apply leave0; (exact rfl); (simp only [push_cast, seval, hcv, List.map_append] <;> (try simp (disch := omega) only [wrap_i64, wrap_u8, Int.add_sub_cancel]) <;> exact rfl); all_goals (try simp only [push_cast, seval, hcv, List.map_append]); (try rfl))
  split <;> simp_all
end Go.Proofs.Try
