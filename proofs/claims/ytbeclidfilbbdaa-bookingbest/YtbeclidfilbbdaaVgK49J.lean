/- A part of the proof of BookingBest: contracts of functions, with plain laws that they need. -/
import Derived.Test.YtbeclidfilbbdaaVgK46J
set_option linter.all false
set_option maxHeartbeats 8000000
set_option maxRecDepth 20000
namespace Go.Proofs.Try
open Go.Vg
theorem Choose_pure (cs : List Ch) (ms : List Ma) (cake : Int) (ls : List Bk) (vals : List Int) (hc : cs.length ≤ 9223372036854775807) (hm : ms.length ≤ 9223372036854775807) (hl : ls.length ≤ 9223372036854775807) (hs : vals.length ≤ 9223372036854775807) : Pure Try.prog 46 [houA cs ms cake, .lst 6 (ls.map bkA), .ints vals] (.tup [chA' cs ms cake ls vals, .int (chN cs ms cake ls vals), .int (chG cs ms cake ls vals)]) := by
  have hck := check_pure cs ms cake ls hc hm hl
  unfold chA' chN
  by_cases h1 : ckE cs ms cake ls = 0
  · have hgE : chG cs ms cake ls vals = if ls.length ≤ 12 then (if vals.length = ls.length ∧ inV vals = true then 0 else 1) else 2 := by unfold chG; rw [if_pos h1]
    rw [h1] at hck
    have hpw := PW.of_ck h1
    have hl20 := hpw.lv.l20
    by_cases h2 : ls.length ≤ 12
    · rw [if_pos h2] at hgE
      have hgt : decide ((12 : Int) < (ls.length : Int)) = false := decide_eq_false (by omega)
      by_cases h3 : vals.length = ls.length
      · have hle : decide ((vals.length : Int) = (ls.length : Int)) = true := decide_eq_true (by omega)
        have hcf := containsFuncI vals 75 [] (fun m => !wi m 0 100000) (Enters.of Try.func75 rfl rfl) trivial (fun _ => ⟨rfl, rfl⟩) (fun m _ => ch1_pure m) hs
        have hin : (vals.any fun m => !wi m 0 100000) = !inV vals := any_notK _ _
        rw [hin] at hcf
        cases h4 : inV vals with
        | false =>
          rw [h4] at hcf
          rw [if_neg (fun h => by rw [h4] at h; cases h.2)] at hgE
          rw [hgE, if_neg (by decide), if_neg (by decide)]
          (refine Spec.of_body Try.func46 rfl (by rw [Try.ntmps46]; simp) 0 (by simp) ?_; rw [Try.results46, Try.ntmps46]; simp only [entry, zipArgs, Nat.reduceAdd])
          repeat (first | apply Wp.seq | apply Wp.block | (apply Run.next; (simp only [push_cast, seval, hgt, hle] <;> (try simp (disch := omega) only [wI, wU, wC]) <;> exact rfl); (focus ((try simp only [push_cast, seval, hgt, hle]) <;> exact sT))) | ((first | apply Run.nil | apply Wp.skip); dsimp only [sQ, tQ, bQ]) | (apply Wp.run; (dsimp only [List.map] <;> exact rfl); exact rfl) | (apply Wp.exit; dsimp only [sQ, tQ, bQ]; simp only [reduceIte]))
          (apply Run.pureP; (simp only [push_cast, seval, hgt, hle] <;> (try simp (disch := omega) only [wI, wU, wC]) <;> exact rfl); (exact (Enters.of Try.func39 rfl rfl)); (exact hck); (focus (simp only [push_cast, seval, hgt, hle] <;> first | trivial | assumption | (refine ⟨?_, ?_⟩ <;> assumption) | (simp; done))); (try dsimp only [putA, optG]))
          repeat (first | apply Wp.seq | apply Wp.block | (apply Run.next; (simp only [push_cast, seval, hgt, hle] <;> (try simp (disch := omega) only [wI, wU, wC]) <;> exact rfl); (focus ((try simp only [push_cast, seval, hgt, hle]) <;> exact sT))) | ((first | apply Run.nil | apply Wp.skip); dsimp only [sQ, tQ, bQ]) | (apply Wp.run; (dsimp only [List.map] <;> exact rfl); exact rfl) | (apply Wp.exit; dsimp only [sQ, tQ, bQ]; simp only [reduceIte]) | (apply Run.gtrue; (simp only [push_cast, seval, hgt, hle] <;> (try simp (disch := omega) only [wI, wU, wC]) <;> exact rfl); (simp only [push_cast, seval, hgt, hle] <;> (try simp (disch := omega) only [wI, wU, wC]) <;> exact rfl)) | (apply Run.gfalse (.bool false); (simp only [push_cast, seval, hgt, hle] <;> (try simp (disch := omega) only [wI, wU, wC]) <;> exact rfl); dsimp only [S.put, optG]) | (apply Wp.condT; (simp only [push_cast, seval, hgt, hle] <;> (try simp (disch := omega) only [wI, wU, wC]) <;> exact rfl)) | (apply Wp.condF; (simp only [push_cast, seval, hgt, hle] <;> (try simp (disch := omega) only [wI, wU, wC]) <;> exact rfl)))
          (apply Run.pureP; (simp only [push_cast, seval, hgt, hle] <;> (try simp (disch := omega) only [wI, wU, wC]) <;> exact rfl); (exact (Enters.of Try.func63 rfl rfl)); (exact hcf); (focus (simp only [push_cast, seval, hgt, hle] <;> first | trivial | assumption | (refine ⟨?_, ?_⟩ <;> assumption) | (simp; done))); (try dsimp only [putA, optG]))
          repeat (first | apply Wp.seq | apply Wp.block | (apply Run.next; (simp only [push_cast, seval, hgt, hle] <;> (try simp (disch := omega) only [wI, wU, wC]) <;> exact rfl); (focus ((try simp only [push_cast, seval, hgt, hle]) <;> exact sT))) | ((first | apply Run.nil | apply Wp.skip); dsimp only [sQ, tQ, bQ]) | (apply Wp.run; (dsimp only [List.map] <;> exact rfl); exact rfl) | (apply Wp.exit; dsimp only [sQ, tQ, bQ]; simp only [reduceIte]) | (apply Run.gtrue; (simp only [push_cast, seval, hgt, hle] <;> (try simp (disch := omega) only [wI, wU, wC]) <;> exact rfl); (simp only [push_cast, seval, hgt, hle] <;> (try simp (disch := omega) only [wI, wU, wC]) <;> exact rfl)) | (apply Run.gfalse (.bool false); (simp only [push_cast, seval, hgt, hle] <;> (try simp (disch := omega) only [wI, wU, wC]) <;> exact rfl); dsimp only [S.put, optG]) | (apply Wp.condT; (simp only [push_cast, seval, hgt, hle] <;> (try simp (disch := omega) only [wI, wU, wC]) <;> exact rfl)) | (apply Wp.condF; (simp only [push_cast, seval, hgt, hle] <;> (try simp (disch := omega) only [wI, wU, wC]) <;> exact rfl)))
          (apply Wp.ret; (try dsimp only [sQ, tQ, bQ]); apply leave0; exact rfl; (simp only [push_cast, seval, hgt, hle] <;> (try simp (disch := omega) only [wI, wU, wC]) <;> exact rfl); all_goals (try simp only [push_cast, seval, hgt, hle]); (try rfl))
        | true =>
          rw [h4] at hcf
          rw [if_pos ⟨h3, h4⟩] at hgE
          rw [hgE, if_pos rfl, if_pos rfl]
          have hvb : ∀ i, i < vals.length → 0 ≤ vals.getD i 0 ∧ vals.getD i 0 ≤ 100000 := fun i hi => by
            unfold inV at h4
            rw [List.all_eq_true] at h4
            have := h4 _ (memI hi)
            rw [wi_iff] at this; exact this
          obtain ⟨T, hT, hT2⟩ := TT_bd ls.length h2
          rw [hT, Int.toNat_natCast]
          have hTT : IntKind.i64.wrap (1 * 2 ^ (min ls.length IntKind.i64.bits)) = (T : Int) := hT
          have hbd := fun k => chS_bd (cs := cs) (ms := ms) (cake := cake) (ls := ls) h3 hvb k
          have hcS : ∀ k, chS cs ms cake ls vals (k + 1) = if (betB (wtF vals (sP k) ls.length) (chS cs ms cake ls vals k).2 (cL (ixL (sP k) ls.length)) (chS cs ms cake ls vals k).1 && whL (sP k) ls && decide (edE cs ms cake (someL (sP k) ls) = 0)) = true then (cL (ixL (sP k) ls.length), wtF vals (sP k) ls.length) else chS cs ms cake ls vals k := fun _ => rfl
          have hc0 : chS cs ms cake ls vals 0 = ([], 0) := rfl
          generalize chS cs ms cake ls vals = cS at hbd hcS hc0
          (refine Spec.of_body Try.func46 rfl (by rw [Try.ntmps46]; simp) 0 (by simp) ?_; rw [Try.results46, Try.ntmps46]; simp only [entry, zipArgs, Nat.reduceAdd])
          repeat (first | apply Wp.seq | apply Wp.block | (apply Run.next; (simp only [push_cast, seval, hgt, hle, hTT] <;> (try simp (disch := omega) only [wI, wU, wC]) <;> exact rfl); (focus ((try simp only [push_cast, seval, hgt, hle, hTT]) <;> exact sT))) | ((first | apply Run.nil | apply Wp.skip); dsimp only [sQ, tQ, bQ]) | (apply Wp.run; (dsimp only [List.map] <;> exact rfl); exact rfl) | (apply Wp.exit; dsimp only [sQ, tQ, bQ]; simp only [reduceIte]))
          (apply Run.pureP; (simp only [push_cast, seval, hgt, hle, hTT] <;> (try simp (disch := omega) only [wI, wU, wC]) <;> exact rfl); (exact (Enters.of Try.func39 rfl rfl)); (exact hck); (focus (simp only [push_cast, seval, hgt, hle, hTT] <;> first | trivial | assumption | (refine ⟨?_, ?_⟩ <;> assumption) | (simp; done))); (try dsimp only [putA, optG]))
          repeat (first | apply Wp.seq | apply Wp.block | (apply Run.next; (simp only [push_cast, seval, hgt, hle, hTT] <;> (try simp (disch := omega) only [wI, wU, wC]) <;> exact rfl); (focus ((try simp only [push_cast, seval, hgt, hle, hTT]) <;> exact sT))) | ((first | apply Run.nil | apply Wp.skip); dsimp only [sQ, tQ, bQ]) | (apply Wp.run; (dsimp only [List.map] <;> exact rfl); exact rfl) | (apply Wp.exit; dsimp only [sQ, tQ, bQ]; simp only [reduceIte]) | (apply Run.gtrue; (simp only [push_cast, seval, hgt, hle, hTT] <;> (try simp (disch := omega) only [wI, wU, wC]) <;> exact rfl); (simp only [push_cast, seval, hgt, hle, hTT] <;> (try simp (disch := omega) only [wI, wU, wC]) <;> exact rfl)) | (apply Run.gfalse (.bool false); (simp only [push_cast, seval, hgt, hle, hTT] <;> (try simp (disch := omega) only [wI, wU, wC]) <;> exact rfl); dsimp only [S.put, optG]) | (apply Wp.condT; (simp only [push_cast, seval, hgt, hle, hTT] <;> (try simp (disch := omega) only [wI, wU, wC]) <;> exact rfl)) | (apply Wp.condF; (simp only [push_cast, seval, hgt, hle, hTT] <;> (try simp (disch := omega) only [wI, wU, wC]) <;> exact rfl)))
          (apply Run.pureP; (simp only [push_cast, seval, hgt, hle, hTT] <;> (try simp (disch := omega) only [wI, wU, wC]) <;> exact rfl); (exact (Enters.of Try.func63 rfl rfl)); (exact hcf); (focus (simp only [push_cast, seval, hgt, hle, hTT] <;> first | trivial | assumption | (refine ⟨?_, ?_⟩ <;> assumption) | (simp; done))); (try dsimp only [putA, optG]))
          repeat (first | apply Wp.seq | apply Wp.block | (apply Run.next; (simp only [push_cast, seval, hgt, hle, hTT] <;> (try simp (disch := omega) only [wI, wU, wC]) <;> exact rfl); (focus ((try simp only [push_cast, seval, hgt, hle, hTT]) <;> exact sT))) | ((first | apply Run.nil | apply Wp.skip); dsimp only [sQ, tQ, bQ]) | (apply Wp.run; (dsimp only [List.map] <;> exact rfl); exact rfl) | (apply Wp.exit; dsimp only [sQ, tQ, bQ]; simp only [reduceIte]) | (apply Run.gtrue; (simp only [push_cast, seval, hgt, hle, hTT] <;> (try simp (disch := omega) only [wI, wU, wC]) <;> exact rfl); (simp only [push_cast, seval, hgt, hle, hTT] <;> (try simp (disch := omega) only [wI, wU, wC]) <;> exact rfl)) | (apply Run.gfalse (.bool false); (simp only [push_cast, seval, hgt, hle, hTT] <;> (try simp (disch := omega) only [wI, wU, wC]) <;> exact rfl); dsimp only [S.put, optG]) | (apply Wp.condT; (simp only [push_cast, seval, hgt, hle, hTT] <;> (try simp (disch := omega) only [wI, wU, wC]) <;> exact rfl)) | (apply Wp.condF; (simp only [push_cast, seval, hgt, hle, hTT] <;> (try simp (disch := omega) only [wI, wU, wC]) <;> exact rfl)))
          refine Wp.nilL 6 1 (by (simp only [push_cast, seval, hgt, hle, hTT] <;> (try simp (disch := omega) only [wI, wU, wC]) <;> exact rfl)) ?_
          (refine Wp.vacs 1 ?_; (try simp only [List.replicate_succ, List.replicate_zero, List.cons_append, List.nil_append]))
          refine Wp.loop (fun (q : Nat × Nat × Kind) => { t := [(1, .lst 6 (ls.map bkA)), (2, .ints vals), (3, .optr 0 0 0 0), (6, .ints (cS q.1).1), (7, .int (cS q.1).2), (37, .int T), (38, .int q.1)], m := [⟨0, .row 3 [houA cs ms cake]⟩, ⟨q.2.1, q.2.2⟩], n := 110 }) (fun q => q.1 ≤ T) (fun q => T - q.1) (0, 0, .row 1 []) ?_ ?_ ?_
          · simp only
            rw [hc0]
            (refine Le.of ?_ ?_ rfl rfl <;> (try simp only [push_cast, seval, hgt, hle, hTT]) <;> (try (with_reducible rfl)))
            all_goals rfl
          · simp
          · rintro ⟨k, v, kd⟩ hk1
            simp only at hk1
            have hbk := hbd k
            have hck1 := hcS k
            generalize hch : (cS k).1 = ch at hbk hck1
            generalize hsm : (cS k).2 = sm at hbk hck1
            have hcSk : cS k = (ch, sm) := by rw [← hch, ← hsm]
            repeat (first | apply Wp.seq | apply Wp.block | (apply Run.calm; exact rfl; (simp only [push_cast, seval] <;> (try simp (disch := omega) only [wI, wU, wC]) <;> exact rfl); (focus ((try simp only [push_cast, seval]) <;> exact sT))) | ((first | apply Run.nil | apply Wp.skip); dsimp only [sQ, tQ, bQ]) | (apply Wp.run; (dsimp only [List.map] <;> exact rfl); exact rfl) | (apply Wp.exit; dsimp only [sQ, tQ, bQ]; simp only [reduceIte]))
            (apply Wp.cond; (simp only [push_cast, seval] <;> (try simp (disch := omega) only [wI, wU, wC]) <;> exact rfl))
            · intro hc1
              simp only [decide_eq_true_eq, Int.ofNat_lt] at hc1
              have hmb := members_pure (k : Int) ls.length (by omega)
              have hix := ixL_le (sP k) ls.length
              have hil := ixL_lt (sP k) ls.length
              have hws := wtF_sum vals (sP k) ls.length
              have hwb := wtF_bd hvb (sP k) ls.length (by omega)
              have hlb := lsum_bd hvb (ixL (sP k) ls.length) (fun i hi => by rw [h3]; exact hil i hi)
              have hml := cL_len (ixL (sP k) ls.length)
              have hmg : ∀ j, j < (ixL (sP k) ls.length).length → (cL (ixL (sP k) ls.length)).getD j 0 = (((ixL (sP k) ls.length).getD j 0 : Nat) : Int) := fun j hj => by simp [cL, hj]
              have hig : ∀ j, j < (ixL (sP k) ls.length).length → (ixL (sP k) ls.length).getD j 0 < ls.length := fun j hj => hil _ (by simp [hj])
              have hls : ∀ j, j < (ixL (sP k) ls.length).length → lsum vals ((ixL (sP k) ls.length).take (j + 1)) = lsum vals ((ixL (sP k) ls.length).take j) + vals.getD ((ixL (sP k) ls.length).getD j 0) 0 := fun j hj => by
                have e : (ixL (sP k) ls.length).take (j + 1) = (ixL (sP k) ls.length).take j ++ [(ixL (sP k) ls.length).getD j 0] := by rw [List.take_add_one]; simp [hj]
                rw [e, lsum_app]
              have hwh := whole_pure (ls := ls) (k : Int) (by omega) hpw.lv.rv
              have hsp := some_pure ls 79 [.ref [.int (k : Int)] 0] (sP k) (Enters.of Try.func79 rfl rfl) ⟨by simp only [push_cast], trivial⟩ (fun _ => ⟨rfl, rfl⟩) (fun i _ => ch2_pure i (k : Int)) hl20 hpw.lv.rv
              have hpw2 := PW.of_ck (ck_some (sP k) h1)
              have hft := fits_pure hpw2.hv hpw2.lv
              have hps := possib_pure hpw2
              have hed : decide (edE cs ms cake (someL (sP k) ls) = 0) = (fitB cs cake (someL (sP k) ls) && psB cs ms (someL (sP k) ls)) := by
                rw [Bool.eq_iff_iff, decide_eq_true_eq, Bool.and_eq_true]; exact ed_0
              rw [hed] at hck1
              generalize someL (sP k) ls = sl at hsp hft hps hck1
              generalize fitB cs cake sl = fb at hft hck1
              generalize psB cs ms sl = pb at hps hck1
              generalize whL (sP k) ls = wh at hwh hck1
              generalize wtF vals (sP k) ls.length = w at hws hwb hck1
              generalize ixL (sP k) ls.length = I at hmb hix hlb hml hmg hig hls hws hck1
              generalize hCI : cL I = C at hmb hml hmg hck1
              repeat (first | apply Wp.seq | apply Wp.block | (apply Run.calm; exact rfl; (simp only [push_cast, seval, hml] <;> (try simp (disch := omega) only [wI, wU, wC]) <;> exact rfl); (focus ((try simp only [push_cast, seval, hml]) <;> exact sT))) | ((first | apply Run.nil | apply Wp.skip); dsimp only [sQ, tQ, bQ]) | (apply Wp.run; (dsimp only [List.map] <;> exact rfl); exact rfl) | (apply Wp.exit; dsimp only [sQ, tQ, bQ]; simp only [reduceIte]))
              (apply Run.alcAt 1; (simp only [push_cast, seval, hml] <;> (try simp (disch := omega) only [wI, wU, wC]) <;> exact rfl); (focus ((try simp only [push_cast, seval, hml]) <;> exact sT)); exact rfl; (try simp only [push_cast, seval, hml]))
              repeat (first | apply Wp.seq | apply Wp.block | (apply Run.next; (simp only [push_cast, seval, hml] <;> (try simp (disch := omega) only [wI, wU, wC]) <;> exact rfl); (focus ((try simp only [push_cast, seval, hml]) <;> exact sT))) | ((first | apply Run.nil | apply Wp.skip); dsimp only [sQ, tQ, bQ]) | (apply Wp.run; (dsimp only [List.map] <;> exact rfl); exact rfl) | (apply Wp.exit; dsimp only [sQ, tQ, bQ]; simp only [reduceIte]))
              (apply Run.pureFP; (simp only [push_cast, seval, hml] <;> (try simp (disch := omega) only [wI, wU, wC]) <;> exact rfl); (exact (Enters.of Try.func76 rfl rfl)); (exact hmb); (focus (simp only [push_cast, seval, hml] <;> first | trivial | assumption | (refine ⟨?_, ?_⟩ <;> assumption) | (simp; done))); (try dsimp only [putA, optG]))
              repeat (first | apply Wp.seq | apply Wp.block | (apply Run.next; (simp only [push_cast, seval, hml] <;> (try simp (disch := omega) only [wI, wU, wC]) <;> exact rfl); (focus ((try simp only [push_cast, seval, hml]) <;> exact sT))) | ((first | apply Run.nil | apply Wp.skip); dsimp only [sQ, tQ, bQ]) | (apply Wp.run; (dsimp only [List.map] <;> exact rfl); exact rfl) | (apply Wp.exit; dsimp only [sQ, tQ, bQ]; simp only [reduceIte]))
              refine Wp.loop (fun (j : Nat) => { t := [(1, .lst 6 (ls.map bkA)), (2, .ints vals), (3, .optr 0 0 0 0), (6, .ints ch), (7, .int sm), (37, .int T), (38, .int k), (10, .optr 1 (v + 1) 0 0), (11, .ints C), (12, .int (lsum vals (I.take j))), (45, .ints C), (46, .int I.length), (47, .int j)], m := [⟨0, .row 3 [houA cs ms cake]⟩, ⟨v + 1, .row 1 [.int k]⟩], n := 110 }) (fun j => j ≤ I.length) (fun j => I.length - j) 0 ?_ ?_ ?_
              · (refine Le.of ?_ ?_ rfl rfl <;> (try simp only [push_cast, seval, hml]) <;> (try (with_reducible rfl)))
                all_goals rfl
              · simp
              · intro j hj
                have hlj := hlb j hj
                repeat (first | apply Wp.seq | apply Wp.block | (apply Run.next; (simp only [push_cast, seval, hml] <;> (try simp (disch := omega) only [wI, wU, wC]) <;> exact rfl); (focus ((try simp only [push_cast, seval, hml]) <;> exact sT))) | ((first | apply Run.nil | apply Wp.skip); dsimp only [sQ, tQ, bQ]) | (apply Wp.run; (dsimp only [List.map] <;> exact rfl); exact rfl) | (apply Wp.exit; dsimp only [sQ, tQ, bQ]; simp only [reduceIte]))
                (apply Wp.cond; (simp only [push_cast, seval, hml] <;> (try simp (disch := omega) only [wI, wU, wC]) <;> exact rfl))
                · intro hc2
                  simp only [decide_eq_true_eq, Int.ofNat_lt] at hc2
                  have hgj := hmg j hc2
                  have hij := hig j hc2
                  have hsj := hls j hc2
                  have hvj := hvb (I.getD j 0) (by omega)
                  generalize I.getD j 0 = u at hgj hij hsj hvj
                  generalize hgu : vals.getD u 0 = gu at hsj hvj
                  generalize lsum vals (I.take j) = lj at hlj hsj
                  repeat (first | apply Wp.seq | apply Wp.block | (apply Run.next; (simp only [push_cast, seval, hml, hgj, hgu, h3] <;> (try simp (disch := omega) only [wI, wU, wC]) <;> exact rfl); (focus ((try simp only [push_cast, seval, hml, hgj, hgu, h3]) <;> exact sT))) | ((first | apply Run.nil | apply Wp.skip); dsimp only [sQ, tQ, bQ]) | (apply Wp.run; (dsimp only [List.map] <;> exact rfl); exact rfl) | (apply Wp.exit; dsimp only [sQ, tQ, bQ]; simp only [reduceIte]))
                  refine ⟨j + 1, ?_, by omega, by omega⟩
                  rw [hsj]
                  (refine Le.of ?_ ?_ rfl rfl <;> (try simp only [push_cast, seval, hml, hgj, hgu, h3]) <;> (try (with_reducible rfl)))
                  all_goals (first | rfl | simp)
                · intro hc2
                  simp only [decide_eq_false_iff_not, Int.ofNat_lt] at hc2
                  obtain rfl : j = I.length := by omega
                  rw [List.take_of_length_le (Nat.le_refl _), hws]
                  (apply Wp.exit; dsimp only [sQ, tQ, bQ]; simp only [reduceIte])
                  (repeat (first | apply Wp.seq | apply Wp.block | (apply Run.nil; dsimp only [sQ, tQ, bQ]) | (apply Wp.skip; dsimp only [sQ, tQ, bQ]) | (apply Wp.exit; dsimp only [sQ, tQ, bQ]; simp only [reduceIte])))
                  refine Wp.cut { t := [(1, .lst 6 (ls.map bkA)), (2, .ints vals), (3, .optr 0 0 0 0), (6, .ints ch), (7, .int sm), (37, .int T), (38, .int k), (10, .optr 1 (v + 1) 0 0), (11, .ints C), (12, .int w), (15, .bool (betB w sm C ch))], m := [⟨0, .row 3 [houA cs ms cake]⟩, ⟨v + 1, .row 1 [.int k]⟩], n := 110 } ?_ ?_
                  · rcases Int.lt_trichotomy w sm with h | h | h
                    · have e1 : decide (sm < w) = false := decide_eq_false (by omega)
                      have e2 : decide (w = sm) = false := decide_eq_false (by omega)
                      rw [show betB w sm C ch = false by unfold betB; rw [e1, e2]; rfl]
                      repeat (first | apply Wp.seq | apply Wp.block | (apply Run.next; (simp only [push_cast, seval, hml, e1, e2] <;> (try simp (disch := omega) only [wI, wU, wC]) <;> exact rfl); (focus ((try simp only [push_cast, seval, hml, e1, e2]) <;> exact sT))) | ((first | apply Run.nil | apply Wp.skip); dsimp only [sQ, tQ, bQ]) | (apply Wp.run; (dsimp only [List.map] <;> exact rfl); exact rfl) | (apply Wp.exit; dsimp only [sQ, tQ, bQ]; simp only [reduceIte]) | (apply Run.gtrue; (simp only [push_cast, seval, hml, e1, e2] <;> (try simp (disch := omega) only [wI, wU, wC]) <;> exact rfl); (simp only [push_cast, seval, hml, e1, e2] <;> (try simp (disch := omega) only [wI, wU, wC]) <;> exact rfl)) | (apply Run.gfalse (.bool false); (simp only [push_cast, seval, hml, e1, e2] <;> (try simp (disch := omega) only [wI, wU, wC]) <;> exact rfl); dsimp only [S.put, optG]) | (apply Wp.condT; (simp only [push_cast, seval, hml, e1, e2] <;> (try simp (disch := omega) only [wI, wU, wC]) <;> exact rfl)) | (apply Wp.condF; (simp only [push_cast, seval, hml, e1, e2] <;> (try simp (disch := omega) only [wI, wU, wC]) <;> exact rfl)))
                      (refine Le.of ?_ ?_ rfl rfl <;> (try simp only [push_cast, seval, hml, e1, e2]) <;> (try (with_reducible rfl)))
                      all_goals (first | rfl | simp)
                    · have e1 : decide (sm < w) = false := decide_eq_false (by omega)
                      have e2 : decide (w = sm) = true := decide_eq_true h
                      rw [show betB w sm C ch = befB C ch by unfold betB; rw [e1, e2]; simp]
                      by_cases hlen : C.length = ch.length
                      · obtain ⟨vc, hvc, hve⟩ := compare_pure C ch hlen (by omega)
                        have e3 : decide ((I.length : Int) < (ch.length : Int)) = false := decide_eq_false (by omega)
                        have e4 : decide ((I.length : Int) = (ch.length : Int)) = true := decide_eq_true (by omega)
                        rw [show befB C ch = decide (vc < 0) by unfold befB; rw [if_pos hlen, hve]]
                        repeat (first | apply Wp.seq | apply Wp.block | (apply Run.next; (simp only [push_cast, seval, hml, e1, e2, e3, e4] <;> (try simp (disch := omega) only [wI, wU, wC]) <;> exact rfl); (focus ((try simp only [push_cast, seval, hml, e1, e2, e3, e4]) <;> exact sT))) | ((first | apply Run.nil | apply Wp.skip); dsimp only [sQ, tQ, bQ]) | (apply Wp.run; (dsimp only [List.map] <;> exact rfl); exact rfl) | (apply Wp.exit; dsimp only [sQ, tQ, bQ]; simp only [reduceIte]) | (apply Run.gtrue; (simp only [push_cast, seval, hml, e1, e2, e3, e4] <;> (try simp (disch := omega) only [wI, wU, wC]) <;> exact rfl); (simp only [push_cast, seval, hml, e1, e2, e3, e4] <;> (try simp (disch := omega) only [wI, wU, wC]) <;> exact rfl)) | (apply Run.gfalse (.bool false); (simp only [push_cast, seval, hml, e1, e2, e3, e4] <;> (try simp (disch := omega) only [wI, wU, wC]) <;> exact rfl); dsimp only [S.put, optG]) | (apply Wp.condT; (simp only [push_cast, seval, hml, e1, e2, e3, e4] <;> (try simp (disch := omega) only [wI, wU, wC]) <;> exact rfl)) | (apply Wp.condF; (simp only [push_cast, seval, hml, e1, e2, e3, e4] <;> (try simp (disch := omega) only [wI, wU, wC]) <;> exact rfl)))
                        (apply Run.pureP; (simp only [push_cast, seval, hml, e1, e2, e3, e4] <;> (try simp (disch := omega) only [wI, wU, wC]) <;> exact rfl); (exact (Enters.of Try.func77 rfl rfl)); (exact hvc); (focus (simp only [push_cast, seval, hml, e1, e2, e3, e4] <;> first | trivial | assumption | (refine ⟨?_, ?_⟩ <;> assumption) | (simp; done))); (try dsimp only [putA, optG]))
                        repeat (first | apply Wp.seq | apply Wp.block | (apply Run.next; (simp only [push_cast, seval, hml, e1, e2, e3, e4] <;> (try simp (disch := omega) only [wI, wU, wC]) <;> exact rfl); (focus ((try simp only [push_cast, seval, hml, e1, e2, e3, e4]) <;> exact sT))) | ((first | apply Run.nil | apply Wp.skip); dsimp only [sQ, tQ, bQ]) | (apply Wp.run; (dsimp only [List.map] <;> exact rfl); exact rfl) | (apply Wp.exit; dsimp only [sQ, tQ, bQ]; simp only [reduceIte]) | (apply Run.gtrue; (simp only [push_cast, seval, hml, e1, e2, e3, e4] <;> (try simp (disch := omega) only [wI, wU, wC]) <;> exact rfl); (simp only [push_cast, seval, hml, e1, e2, e3, e4] <;> (try simp (disch := omega) only [wI, wU, wC]) <;> exact rfl)) | (apply Run.gfalse (.bool false); (simp only [push_cast, seval, hml, e1, e2, e3, e4] <;> (try simp (disch := omega) only [wI, wU, wC]) <;> exact rfl); dsimp only [S.put, optG]) | (apply Wp.condT; (simp only [push_cast, seval, hml, e1, e2, e3, e4] <;> (try simp (disch := omega) only [wI, wU, wC]) <;> exact rfl)) | (apply Wp.condF; (simp only [push_cast, seval, hml, e1, e2, e3, e4] <;> (try simp (disch := omega) only [wI, wU, wC]) <;> exact rfl)))
                        (refine Le.of ?_ ?_ rfl rfl <;> (try simp only [push_cast, seval, hml, e1, e2, e3, e4]) <;> (try (with_reducible rfl)))
                        all_goals (first | rfl | simp)
                      · have e4 : decide ((I.length : Int) = (ch.length : Int)) = false := decide_eq_false (by omega)
                        by_cases hlt : I.length < ch.length
                        · have e3 : decide ((I.length : Int) < (ch.length : Int)) = true := decide_eq_true (by omega)
                          rw [show befB C ch = true by unfold befB; rw [if_neg hlen, decide_eq_true (by omega)]]
                          repeat (first | apply Wp.seq | apply Wp.block | (apply Run.next; (simp only [push_cast, seval, hml, e1, e2, e3, e4] <;> (try simp (disch := omega) only [wI, wU, wC]) <;> exact rfl); (focus ((try simp only [push_cast, seval, hml, e1, e2, e3, e4]) <;> exact sT))) | ((first | apply Run.nil | apply Wp.skip); dsimp only [sQ, tQ, bQ]) | (apply Wp.run; (dsimp only [List.map] <;> exact rfl); exact rfl) | (apply Wp.exit; dsimp only [sQ, tQ, bQ]; simp only [reduceIte]) | (apply Run.gtrue; (simp only [push_cast, seval, hml, e1, e2, e3, e4] <;> (try simp (disch := omega) only [wI, wU, wC]) <;> exact rfl); (simp only [push_cast, seval, hml, e1, e2, e3, e4] <;> (try simp (disch := omega) only [wI, wU, wC]) <;> exact rfl)) | (apply Run.gfalse (.bool false); (simp only [push_cast, seval, hml, e1, e2, e3, e4] <;> (try simp (disch := omega) only [wI, wU, wC]) <;> exact rfl); dsimp only [S.put, optG]) | (apply Wp.condT; (simp only [push_cast, seval, hml, e1, e2, e3, e4] <;> (try simp (disch := omega) only [wI, wU, wC]) <;> exact rfl)) | (apply Wp.condF; (simp only [push_cast, seval, hml, e1, e2, e3, e4] <;> (try simp (disch := omega) only [wI, wU, wC]) <;> exact rfl)))
                          (refine Le.of ?_ ?_ rfl rfl <;> (try simp only [push_cast, seval, hml, e1, e2, e3, e4]) <;> (try (with_reducible rfl)))
                          all_goals (first | rfl | simp)
                        · have e3 : decide ((I.length : Int) < (ch.length : Int)) = false := decide_eq_false (by omega)
                          rw [show befB C ch = false by unfold befB; rw [if_neg hlen, decide_eq_false (by omega)]]
                          repeat (first | apply Wp.seq | apply Wp.block | (apply Run.next; (simp only [push_cast, seval, hml, e1, e2, e3, e4] <;> (try simp (disch := omega) only [wI, wU, wC]) <;> exact rfl); (focus ((try simp only [push_cast, seval, hml, e1, e2, e3, e4]) <;> exact sT))) | ((first | apply Run.nil | apply Wp.skip); dsimp only [sQ, tQ, bQ]) | (apply Wp.run; (dsimp only [List.map] <;> exact rfl); exact rfl) | (apply Wp.exit; dsimp only [sQ, tQ, bQ]; simp only [reduceIte]) | (apply Run.gtrue; (simp only [push_cast, seval, hml, e1, e2, e3, e4] <;> (try simp (disch := omega) only [wI, wU, wC]) <;> exact rfl); (simp only [push_cast, seval, hml, e1, e2, e3, e4] <;> (try simp (disch := omega) only [wI, wU, wC]) <;> exact rfl)) | (apply Run.gfalse (.bool false); (simp only [push_cast, seval, hml, e1, e2, e3, e4] <;> (try simp (disch := omega) only [wI, wU, wC]) <;> exact rfl); dsimp only [S.put, optG]) | (apply Wp.condT; (simp only [push_cast, seval, hml, e1, e2, e3, e4] <;> (try simp (disch := omega) only [wI, wU, wC]) <;> exact rfl)) | (apply Wp.condF; (simp only [push_cast, seval, hml, e1, e2, e3, e4] <;> (try simp (disch := omega) only [wI, wU, wC]) <;> exact rfl)))
                          (refine Le.of ?_ ?_ rfl rfl <;> (try simp only [push_cast, seval, hml, e1, e2, e3, e4]) <;> (try (with_reducible rfl)))
                          all_goals (first | rfl | simp)
                    · have e1 : decide (sm < w) = true := decide_eq_true h
                      rw [show betB w sm C ch = true by unfold betB; rw [e1]; rfl]
                      repeat (first | apply Wp.seq | apply Wp.block | (apply Run.next; (simp only [push_cast, seval, hml, e1] <;> (try simp (disch := omega) only [wI, wU, wC]) <;> exact rfl); (focus ((try simp only [push_cast, seval, hml, e1]) <;> exact sT))) | ((first | apply Run.nil | apply Wp.skip); dsimp only [sQ, tQ, bQ]) | (apply Wp.run; (dsimp only [List.map] <;> exact rfl); exact rfl) | (apply Wp.exit; dsimp only [sQ, tQ, bQ]; simp only [reduceIte]) | (apply Run.gtrue; (simp only [push_cast, seval, hml, e1] <;> (try simp (disch := omega) only [wI, wU, wC]) <;> exact rfl); (simp only [push_cast, seval, hml, e1] <;> (try simp (disch := omega) only [wI, wU, wC]) <;> exact rfl)) | (apply Run.gfalse (.bool false); (simp only [push_cast, seval, hml, e1] <;> (try simp (disch := omega) only [wI, wU, wC]) <;> exact rfl); dsimp only [S.put, optG]) | (apply Wp.condT; (simp only [push_cast, seval, hml, e1] <;> (try simp (disch := omega) only [wI, wU, wC]) <;> exact rfl)) | (apply Wp.condF; (simp only [push_cast, seval, hml, e1] <;> (try simp (disch := omega) only [wI, wU, wC]) <;> exact rfl)))
                      (refine Le.of ?_ ?_ rfl rfl <;> (try simp only [push_cast, seval, hml, e1]) <;> (try (with_reducible rfl)))
                      all_goals (first | rfl | simp)
                  · (try dsimp only [sQ, tQ, bQ])
                    intro s' hs'
                    refine Wp.le hs' ?_
                    generalize betB w sm C ch = bt at hck1
                    repeat (first | apply Wp.seq | apply Wp.block | (apply Run.next; (simp only [push_cast, seval, hml] <;> (try simp (disch := omega) only [wI, wU, wC]) <;> exact rfl); (focus ((try simp only [push_cast, seval, hml]) <;> exact sT))) | ((first | apply Run.nil | apply Wp.skip); dsimp only [sQ, tQ, bQ]) | (apply Wp.run; (dsimp only [List.map] <;> exact rfl); exact rfl) | (apply Wp.exit; dsimp only [sQ, tQ, bQ]; simp only [reduceIte]))
                    (apply Run.pureP; (simp only [push_cast, seval, hml] <;> (try simp (disch := omega) only [wI, wU, wC]) <;> exact rfl); (exact (Enters.of Try.func78 rfl rfl)); (exact hwh); (focus (simp only [push_cast, seval, hml] <;> first | trivial | assumption | (refine ⟨?_, ?_⟩ <;> assumption) | (simp; done))); (try dsimp only [putA, optG]))
                    repeat (first | apply Wp.seq | apply Wp.block | (apply Run.next; (simp only [push_cast, seval, hml] <;> (try simp (disch := omega) only [wI, wU, wC]) <;> exact rfl); (focus ((try simp only [push_cast, seval, hml]) <;> exact sT))) | ((first | apply Run.nil | apply Wp.skip); dsimp only [sQ, tQ, bQ]) | (apply Wp.run; (dsimp only [List.map] <;> exact rfl); exact rfl) | (apply Wp.exit; dsimp only [sQ, tQ, bQ]; simp only [reduceIte]))
                    (apply Wp.cond; (simp only [push_cast, seval, hml] <;> (try simp (disch := omega) only [wI, wU, wC]) <;> exact rfl))
                    · intro h5
                      have hz : cS (k + 1) = (ch, sm) := by
                        rw [hck1, if_neg (by cases bt <;> cases wh <;> simp_all), hcSk]
                      repeat (first | apply Wp.seq | apply Wp.block | (apply Run.next; (simp only [push_cast, seval, hml] <;> (try simp (disch := omega) only [wI, wU, wC]) <;> exact rfl); (focus ((try simp only [push_cast, seval, hml]) <;> exact sT))) | ((first | apply Run.nil | apply Wp.skip); dsimp only [sQ, tQ, bQ]) | (apply Wp.run; (dsimp only [List.map] <;> exact rfl); exact rfl) | (apply Wp.exit; dsimp only [sQ, tQ, bQ]; simp only [reduceIte]))
                      refine ⟨(k + 1, v + 1, .row 1 [.int k]), ?_, by simp only; omega, by simp only; omega⟩
                      simp only
                      rw [hz]
                      (refine Le.of ?_ ?_ rfl rfl <;> (try simp only [push_cast, seval, hml]) <;> (try (with_reducible rfl)))
                    · intro h5
                      have hbw : bt = true ∧ wh = true := by cases bt <;> cases wh <;> simp_all
                      rw [hbw.1, hbw.2] at hck1
                      (apply Wp.freezeP 10; (simp only [push_cast, seval, hml] <;> (try simp (disch := omega) only [wI, wU, wC]) <;> exact rfl); (simp only [push_cast, seval, hml] <;> (try simp (disch := omega) only [wI, wU, wC]) <;> exact rfl); exact rfl; (focus (first | (simp [AV.cells]; done) | (simp only [push_cast, seval, hml]; done))); simp only [AV.cells, List.set_cons_succ, List.set_cons_zero])
                      repeat (first | apply Wp.seq | apply Wp.block | (apply Run.next; (simp only [push_cast, seval, hml] <;> (try simp (disch := omega) only [wI, wU, wC]) <;> exact rfl); (focus ((try simp only [push_cast, seval, hml]) <;> exact sT))) | ((first | apply Run.nil | apply Wp.skip); dsimp only [sQ, tQ, bQ]) | (apply Wp.run; (dsimp only [List.map] <;> exact rfl); exact rfl) | (apply Wp.exit; dsimp only [sQ, tQ, bQ]; simp only [reduceIte]))
                      (apply Run.pureFP; (simp only [push_cast, seval, hml] <;> (try simp (disch := omega) only [wI, wU, wC]) <;> exact rfl); (exact (Enters.of Try.func70 rfl rfl)); (exact hsp); (focus (simp only [push_cast, seval, hml] <;> first | trivial | assumption | (refine ⟨?_, ?_⟩ <;> assumption) | (simp; done))); (try dsimp only [putA, optG]))
                      repeat (first | apply Wp.seq | apply Wp.block | (apply Run.next; (simp only [push_cast, seval, hml] <;> (try simp (disch := omega) only [wI, wU, wC]) <;> exact rfl); (focus ((try simp only [push_cast, seval, hml]) <;> exact sT))) | ((first | apply Run.nil | apply Wp.skip); dsimp only [sQ, tQ, bQ]) | (apply Wp.run; (dsimp only [List.map] <;> exact rfl); exact rfl) | (apply Wp.exit; dsimp only [sQ, tQ, bQ]; simp only [reduceIte]))
                      (apply Run.pureP; (simp only [push_cast, seval, hml] <;> (try simp (disch := omega) only [wI, wU, wC]) <;> exact rfl); (exact (Enters.of Try.func57 rfl rfl)); (exact hft); (focus (simp only [push_cast, seval, hml] <;> first | trivial | assumption | (refine ⟨?_, ?_⟩ <;> assumption) | (simp; done))); (try dsimp only [putA, optG]))
                      repeat (first | apply Wp.seq | apply Wp.block | (apply Run.next; (simp only [push_cast, seval, hml] <;> (try simp (disch := omega) only [wI, wU, wC]) <;> exact rfl); (focus ((try simp only [push_cast, seval, hml]) <;> exact sT))) | ((first | apply Run.nil | apply Wp.skip); dsimp only [sQ, tQ, bQ]) | (apply Wp.run; (dsimp only [List.map] <;> exact rfl); exact rfl) | (apply Wp.exit; dsimp only [sQ, tQ, bQ]; simp only [reduceIte]))
                      (apply Run.pureP; (simp only [push_cast, seval, hml] <;> (try simp (disch := omega) only [wI, wU, wC]) <;> exact rfl); (exact (Enters.of Try.func80 rfl rfl)); (exact hps); (focus (simp only [push_cast, seval, hml] <;> first | trivial | assumption | (refine ⟨?_, ?_⟩ <;> assumption) | (simp; done))); (try dsimp only [putA, optG]))
                      repeat (first | apply Wp.seq | apply Wp.block | (apply Run.next; (simp only [push_cast, seval, hml] <;> (try simp (disch := omega) only [wI, wU, wC]) <;> exact rfl); (focus ((try simp only [push_cast, seval, hml]) <;> exact sT))) | ((first | apply Run.nil | apply Wp.skip); dsimp only [sQ, tQ, bQ]) | (apply Wp.run; (dsimp only [List.map] <;> exact rfl); exact rfl) | (apply Wp.exit; dsimp only [sQ, tQ, bQ]; simp only [reduceIte]))
                      (apply Wp.cond; (simp only [push_cast, seval, hml] <;> (try simp (disch := omega) only [wI, wU, wC]) <;> exact rfl))
                      · intro h6
                        have hz : cS (k + 1) = (C, w) := by
                          rw [hck1, if_pos (by simpa using h6)]
                        repeat (first | apply Wp.seq | apply Wp.block | (apply Run.next; (simp only [push_cast, seval, hml] <;> (try simp (disch := omega) only [wI, wU, wC]) <;> exact rfl); (focus ((try simp only [push_cast, seval, hml]) <;> exact sT))) | ((first | apply Run.nil | apply Wp.skip); dsimp only [sQ, tQ, bQ]) | (apply Wp.run; (dsimp only [List.map] <;> exact rfl); exact rfl) | (apply Wp.exit; dsimp only [sQ, tQ, bQ]; simp only [reduceIte]))
                        refine ⟨(k + 1, v + 1 + 1, .row 1 []), ?_, by simp only; omega, by simp only; omega⟩
                        simp only
                        rw [hz]
                        (refine Le.of ?_ ?_ rfl rfl <;> (try simp only [push_cast, seval, hml]) <;> (try (with_reducible rfl)))
                      · intro h6
                        have hz : cS (k + 1) = (ch, sm) := by
                          rw [hck1, if_neg (by cases fb <;> cases pb <;> simp_all), hcSk]
                        repeat (first | apply Wp.seq | apply Wp.block | (apply Run.next; (simp only [push_cast, seval, hml] <;> (try simp (disch := omega) only [wI, wU, wC]) <;> exact rfl); (focus ((try simp only [push_cast, seval, hml]) <;> exact sT))) | ((first | apply Run.nil | apply Wp.skip); dsimp only [sQ, tQ, bQ]) | (apply Wp.run; (dsimp only [List.map] <;> exact rfl); exact rfl) | (apply Wp.exit; dsimp only [sQ, tQ, bQ]; simp only [reduceIte]))
                        refine ⟨(k + 1, v + 1 + 1, .row 1 []), ?_, by simp only; omega, by simp only; omega⟩
                        simp only
                        rw [hz]
                        (refine Le.of ?_ ?_ rfl rfl <;> (try simp only [push_cast, seval, hml]) <;> (try (with_reducible rfl)))
            · intro hc1
              simp only [decide_eq_false_iff_not, Int.ofNat_lt] at hc1
              obtain rfl : k = T := by omega
              repeat (first | apply Wp.seq | apply Wp.block | (apply Run.next; (simp only [push_cast, seval] <;> (try simp (disch := omega) only [wI, wU, wC]) <;> exact rfl); (focus ((try simp only [push_cast, seval]) <;> exact sT))) | ((first | apply Run.nil | apply Wp.skip); dsimp only [sQ, tQ, bQ]) | (apply Wp.run; (dsimp only [List.map] <;> exact rfl); exact rfl) | (apply Wp.exit; dsimp only [sQ, tQ, bQ]; simp only [reduceIte]) | (apply Run.gtrue; (simp only [push_cast, seval] <;> (try simp (disch := omega) only [wI, wU, wC]) <;> exact rfl); (simp only [push_cast, seval] <;> (try simp (disch := omega) only [wI, wU, wC]) <;> exact rfl)) | (apply Run.gfalse (.bool false); (simp only [push_cast, seval] <;> (try simp (disch := omega) only [wI, wU, wC]) <;> exact rfl); dsimp only [S.put, optG]) | (apply Wp.condT; (simp only [push_cast, seval] <;> (try simp (disch := omega) only [wI, wU, wC]) <;> exact rfl)) | (apply Wp.condF; (simp only [push_cast, seval] <;> (try simp (disch := omega) only [wI, wU, wC]) <;> exact rfl)))
              (apply Wp.ret; (try dsimp only [sQ, tQ, bQ]); apply leave0; exact rfl; (simp only [push_cast, seval] <;> (try simp (disch := omega) only [wI, wU, wC]) <;> exact rfl); all_goals (try simp only [push_cast, seval]); (try rfl))
              rw [hch, hsm]
      · have hle : decide ((vals.length : Int) = (ls.length : Int)) = false := decide_eq_false (by omega)
        rw [if_neg (fun h => h3 h.1)] at hgE
        rw [hgE, if_neg (by decide), if_neg (by decide)]
        (refine Spec.of_body Try.func46 rfl (by rw [Try.ntmps46]; simp) 0 (by simp) ?_; rw [Try.results46, Try.ntmps46]; simp only [entry, zipArgs, Nat.reduceAdd])
        repeat (first | apply Wp.seq | apply Wp.block | (apply Run.next; (simp only [push_cast, seval, hgt, hle] <;> (try simp (disch := omega) only [wI, wU, wC]) <;> exact rfl); (focus ((try simp only [push_cast, seval, hgt, hle]) <;> exact sT))) | ((first | apply Run.nil | apply Wp.skip); dsimp only [sQ, tQ, bQ]) | (apply Wp.run; (dsimp only [List.map] <;> exact rfl); exact rfl) | (apply Wp.exit; dsimp only [sQ, tQ, bQ]; simp only [reduceIte]))
        (apply Run.pureP; (simp only [push_cast, seval, hgt, hle] <;> (try simp (disch := omega) only [wI, wU, wC]) <;> exact rfl); (exact (Enters.of Try.func39 rfl rfl)); (exact hck); (focus (simp only [push_cast, seval, hgt, hle] <;> first | trivial | assumption | (refine ⟨?_, ?_⟩ <;> assumption) | (simp; done))); (try dsimp only [putA, optG]))
        repeat (first | apply Wp.seq | apply Wp.block | (apply Run.next; (simp only [push_cast, seval, hgt, hle] <;> (try simp (disch := omega) only [wI, wU, wC]) <;> exact rfl); (focus ((try simp only [push_cast, seval, hgt, hle]) <;> exact sT))) | ((first | apply Run.nil | apply Wp.skip); dsimp only [sQ, tQ, bQ]) | (apply Wp.run; (dsimp only [List.map] <;> exact rfl); exact rfl) | (apply Wp.exit; dsimp only [sQ, tQ, bQ]; simp only [reduceIte]) | (apply Run.gtrue; (simp only [push_cast, seval, hgt, hle] <;> (try simp (disch := omega) only [wI, wU, wC]) <;> exact rfl); (simp only [push_cast, seval, hgt, hle] <;> (try simp (disch := omega) only [wI, wU, wC]) <;> exact rfl)) | (apply Run.gfalse (.bool false); (simp only [push_cast, seval, hgt, hle] <;> (try simp (disch := omega) only [wI, wU, wC]) <;> exact rfl); dsimp only [S.put, optG]) | (apply Wp.condT; (simp only [push_cast, seval, hgt, hle] <;> (try simp (disch := omega) only [wI, wU, wC]) <;> exact rfl)) | (apply Wp.condF; (simp only [push_cast, seval, hgt, hle] <;> (try simp (disch := omega) only [wI, wU, wC]) <;> exact rfl)))
        (apply Wp.ret; (try dsimp only [sQ, tQ, bQ]); apply leave0; exact rfl; (simp only [push_cast, seval, hgt, hle] <;> (try simp (disch := omega) only [wI, wU, wC]) <;> exact rfl); all_goals (try simp only [push_cast, seval, hgt, hle]); (try rfl))
    · rw [if_neg h2] at hgE
      rw [hgE, if_neg (by decide), if_neg (by decide)]
      have hgt : decide ((12 : Int) < (ls.length : Int)) = true := decide_eq_true (by omega)
      (refine Spec.of_body Try.func46 rfl (by rw [Try.ntmps46]; simp) 0 (by simp) ?_; rw [Try.results46, Try.ntmps46]; simp only [entry, zipArgs, Nat.reduceAdd])
      repeat (first | apply Wp.seq | apply Wp.block | (apply Run.next; (simp only [push_cast, seval, hgt] <;> (try simp (disch := omega) only [wI, wU, wC]) <;> exact rfl); (focus ((try simp only [push_cast, seval, hgt]) <;> exact sT))) | ((first | apply Run.nil | apply Wp.skip); dsimp only [sQ, tQ, bQ]) | (apply Wp.run; (dsimp only [List.map] <;> exact rfl); exact rfl) | (apply Wp.exit; dsimp only [sQ, tQ, bQ]; simp only [reduceIte]))
      (apply Run.pureP; (simp only [push_cast, seval, hgt] <;> (try simp (disch := omega) only [wI, wU, wC]) <;> exact rfl); (exact (Enters.of Try.func39 rfl rfl)); (exact hck); (focus (simp only [push_cast, seval, hgt] <;> first | trivial | assumption | (refine ⟨?_, ?_⟩ <;> assumption) | (simp; done))); (try dsimp only [putA, optG]))
      repeat (first | apply Wp.seq | apply Wp.block | (apply Run.next; (simp only [push_cast, seval, hgt] <;> (try simp (disch := omega) only [wI, wU, wC]) <;> exact rfl); (focus ((try simp only [push_cast, seval, hgt]) <;> exact sT))) | ((first | apply Run.nil | apply Wp.skip); dsimp only [sQ, tQ, bQ]) | (apply Wp.run; (dsimp only [List.map] <;> exact rfl); exact rfl) | (apply Wp.exit; dsimp only [sQ, tQ, bQ]; simp only [reduceIte]) | (apply Run.gtrue; (simp only [push_cast, seval, hgt] <;> (try simp (disch := omega) only [wI, wU, wC]) <;> exact rfl); (simp only [push_cast, seval, hgt] <;> (try simp (disch := omega) only [wI, wU, wC]) <;> exact rfl)) | (apply Run.gfalse (.bool false); (simp only [push_cast, seval, hgt] <;> (try simp (disch := omega) only [wI, wU, wC]) <;> exact rfl); dsimp only [S.put, optG]) | (apply Wp.condT; (simp only [push_cast, seval, hgt] <;> (try simp (disch := omega) only [wI, wU, wC]) <;> exact rfl)) | (apply Wp.condF; (simp only [push_cast, seval, hgt] <;> (try simp (disch := omega) only [wI, wU, wC]) <;> exact rfl)))
      (apply Wp.ret; (try dsimp only [sQ, tQ, bQ]); apply leave0; exact rfl; (simp only [push_cast, seval, hgt] <;> (try simp (disch := omega) only [wI, wU, wC]) <;> exact rfl); all_goals (try simp only [push_cast, seval, hgt]); (try rfl))
  · have hgE : chG cs ms cake ls vals = ckE cs ms cake ls := by unfold chG; rw [if_neg h1]
    rw [hgE, if_neg h1, if_neg h1]
    have hne : decide (ckE cs ms cake ls = 0) = false := decide_eq_false h1
    (refine Spec.of_body Try.func46 rfl (by rw [Try.ntmps46]; simp) 0 (by simp) ?_; rw [Try.results46, Try.ntmps46]; simp only [entry, zipArgs, Nat.reduceAdd])
    repeat (first | apply Wp.seq | apply Wp.block | (apply Run.next; (simp only [push_cast, seval, hne] <;> (try simp (disch := omega) only [wI, wU, wC]) <;> exact rfl); (focus ((try simp only [push_cast, seval, hne]) <;> exact sT))) | ((first | apply Run.nil | apply Wp.skip); dsimp only [sQ, tQ, bQ]) | (apply Wp.run; (dsimp only [List.map] <;> exact rfl); exact rfl) | (apply Wp.exit; dsimp only [sQ, tQ, bQ]; simp only [reduceIte]))
    (apply Run.pureP; (simp only [push_cast, seval, hne] <;> (try simp (disch := omega) only [wI, wU, wC]) <;> exact rfl); (exact (Enters.of Try.func39 rfl rfl)); (exact hck); (focus (simp only [push_cast, seval, hne] <;> first | trivial | assumption | (refine ⟨?_, ?_⟩ <;> assumption) | (simp; done))); (try dsimp only [putA, optG]))
    repeat (first | apply Wp.seq | apply Wp.block | (apply Run.next; (simp only [push_cast, seval, hne] <;> (try simp (disch := omega) only [wI, wU, wC]) <;> exact rfl); (focus ((try simp only [push_cast, seval, hne]) <;> exact sT))) | ((first | apply Run.nil | apply Wp.skip); dsimp only [sQ, tQ, bQ]) | (apply Wp.run; (dsimp only [List.map] <;> exact rfl); exact rfl) | (apply Wp.exit; dsimp only [sQ, tQ, bQ]; simp only [reduceIte]) | (apply Run.gtrue; (simp only [push_cast, seval, hne] <;> (try simp (disch := omega) only [wI, wU, wC]) <;> exact rfl); (simp only [push_cast, seval, hne] <;> (try simp (disch := omega) only [wI, wU, wC]) <;> exact rfl)) | (apply Run.gfalse (.bool false); (simp only [push_cast, seval, hne] <;> (try simp (disch := omega) only [wI, wU, wC]) <;> exact rfl); dsimp only [S.put, optG]) | (apply Wp.condT; (simp only [push_cast, seval, hne] <;> (try simp (disch := omega) only [wI, wU, wC]) <;> exact rfl)) | (apply Wp.condF; (simp only [push_cast, seval, hne] <;> (try simp (disch := omega) only [wI, wU, wC]) <;> exact rfl)))
    (apply Wp.ret; (try dsimp only [sQ, tQ, bQ]); apply leave0; exact rfl; (simp only [push_cast, seval, hne] <;> (try simp (disch := omega) only [wI, wU, wC]) <;> exact rfl); all_goals (try simp only [push_cast, seval, hne]); (try rfl))
end Go.Proofs.Try
set_option maxHeartbeats 8000000
set_option maxRecDepth 20000
namespace Go.Proofs.Try
open Go.Vg
theorem lawBest_pure (cs : List Ch) (ms : List Ma) (cake : Int) (ls : List Bk) (vals oth : List Int) (hc : cs.length ≤ 9223372036854775807) (hm : ms.length ≤ 9223372036854775807) (hl : ls.length ≤ 9223372036854775807) (hs : vals.length ≤ 9223372036854775807) (ho : oth.length ≤ 9223372036854775807) : Pure Try.prog 16 [houA cs ms cake, .lst 6 (ls.map bkA), .agg [.ints vals, .ints oth]] (.bool true) := by
  have hg := large_pure cs ms cake ls hm hl
  have hck := rcheck_pure cs ms cake ls hc hm hl
  have c1 := Choose_pure cs ms cake ls vals hc hm hl hs
  have hw := works_pure
  generalize lgB cs ms ls = g at hg
  generalize hcke : ckE cs ms cake ls = ck at hck
  (refine Spec.of_body Try.func16 rfl (by rw [Try.ntmps16]; simp) 0 (by simp) ?_; rw [Try.results16, Try.ntmps16]; simp only [entry, zipArgs, Nat.reduceAdd])
  repeat (first | apply Wp.seq | apply Wp.block | (apply Run.next; (simp only [push_cast, seval] <;> (try simp (disch := omega) only [wI, wU, wC]) <;> exact rfl); (focus ((try simp only [push_cast, seval]) <;> exact sT))) | ((first | apply Run.nil | apply Wp.skip); dsimp only [sQ, tQ, bQ]) | (apply Wp.run; (dsimp only [List.map] <;> exact rfl); exact rfl) | (apply Wp.exit; dsimp only [sQ, tQ, bQ]; simp only [reduceIte]))
  (apply Run.pureP; (simp only [push_cast, seval] <;> (try simp (disch := omega) only [wI, wU, wC]) <;> exact rfl); (exact (Enters.of Try.func17 rfl rfl)); (exact hg); (focus (simp only [push_cast, seval] <;> first | trivial | assumption | (refine ⟨?_, ?_⟩ <;> assumption) | (simp; done))); (try dsimp only [putA, optG]))
  repeat (first | apply Wp.seq | apply Wp.block | (apply Run.next; (simp only [push_cast, seval] <;> (try simp (disch := omega) only [wI, wU, wC]) <;> exact rfl); (focus ((try simp only [push_cast, seval]) <;> exact sT))) | ((first | apply Run.nil | apply Wp.skip); dsimp only [sQ, tQ, bQ]) | (apply Wp.run; (dsimp only [List.map] <;> exact rfl); exact rfl) | (apply Wp.exit; dsimp only [sQ, tQ, bQ]; simp only [reduceIte]))
  (apply Run.pureP; (simp only [push_cast, seval] <;> (try simp (disch := omega) only [wI, wU, wC]) <;> exact rfl); (exact (Enters.of Try.func26 rfl rfl)); (exact hck); (focus (simp only [push_cast, seval] <;> first | trivial | assumption | (refine ⟨?_, ?_⟩ <;> assumption) | (simp; done))); (try dsimp only [putA, optG]))
  repeat (first | apply Wp.seq | apply Wp.block | (apply Run.next; (simp only [push_cast, seval] <;> (try simp (disch := omega) only [wI, wU, wC]) <;> exact rfl); (focus ((try simp only [push_cast, seval]) <;> exact sT))) | ((first | apply Run.nil | apply Wp.skip); dsimp only [sQ, tQ, bQ]) | (apply Wp.run; (dsimp only [List.map] <;> exact rfl); exact rfl) | (apply Wp.exit; dsimp only [sQ, tQ, bQ]; simp only [reduceIte]))
  (apply Wp.cond; (simp only [push_cast, seval] <;> (try simp (disch := omega) only [wI, wU, wC]) <;> exact rfl))
  · intro h1
    repeat (first | apply Wp.seq | apply Wp.block | (apply Run.next; (simp only [push_cast, seval] <;> (try simp (disch := omega) only [wI, wU, wC]) <;> exact rfl); (focus ((try simp only [push_cast, seval]) <;> exact sT))) | ((first | apply Run.nil | apply Wp.skip); dsimp only [sQ, tQ, bQ]) | (apply Wp.run; (dsimp only [List.map] <;> exact rfl); exact rfl) | (apply Wp.exit; dsimp only [sQ, tQ, bQ]; simp only [reduceIte]) | (apply Run.gtrue; (simp only [push_cast, seval] <;> (try simp (disch := omega) only [wI, wU, wC]) <;> exact rfl); (simp only [push_cast, seval] <;> (try simp (disch := omega) only [wI, wU, wC]) <;> exact rfl)) | (apply Run.gfalse (.bool false); (simp only [push_cast, seval] <;> (try simp (disch := omega) only [wI, wU, wC]) <;> exact rfl); dsimp only [S.put, optG]) | (apply Wp.condT; (simp only [push_cast, seval] <;> (try simp (disch := omega) only [wI, wU, wC]) <;> exact rfl)) | (apply Wp.condF; (simp only [push_cast, seval] <;> (try simp (disch := omega) only [wI, wU, wC]) <;> exact rfl)))
    (apply Run.pureP; (simp only [push_cast, seval] <;> (try simp (disch := omega) only [wI, wU, wC]) <;> exact rfl); (exact (Enters.of Try.func18 rfl rfl)); (exact hw); (focus (simp only [push_cast, seval] <;> first | trivial | assumption | (refine ⟨?_, ?_⟩ <;> assumption) | (simp; done))); (try dsimp only [putA, optG]))
    repeat (first | apply Wp.seq | apply Wp.block | (apply Run.next; (simp only [push_cast, seval] <;> (try simp (disch := omega) only [wI, wU, wC]) <;> exact rfl); (focus ((try simp only [push_cast, seval]) <;> exact sT))) | ((first | apply Run.nil | apply Wp.skip); dsimp only [sQ, tQ, bQ]) | (apply Wp.run; (dsimp only [List.map] <;> exact rfl); exact rfl) | (apply Wp.exit; dsimp only [sQ, tQ, bQ]; simp only [reduceIte]) | (apply Run.gtrue; (simp only [push_cast, seval] <;> (try simp (disch := omega) only [wI, wU, wC]) <;> exact rfl); (simp only [push_cast, seval] <;> (try simp (disch := omega) only [wI, wU, wC]) <;> exact rfl)) | (apply Run.gfalse (.bool false); (simp only [push_cast, seval] <;> (try simp (disch := omega) only [wI, wU, wC]) <;> exact rfl); dsimp only [S.put, optG]) | (apply Wp.condT; (simp only [push_cast, seval] <;> (try simp (disch := omega) only [wI, wU, wC]) <;> exact rfl)) | (apply Wp.condF; (simp only [push_cast, seval] <;> (try simp (disch := omega) only [wI, wU, wC]) <;> exact rfl)))
    (apply Wp.ret; (try dsimp only [sQ, tQ, bQ]); apply leave0; exact rfl; (simp only [push_cast, seval] <;> (try simp (disch := omega) only [wI, wU, wC]) <;> exact rfl); all_goals (try simp only [push_cast, seval]); (try rfl))
  · intro h1
    simp only [Bool.or_eq_false_iff, decide_eq_false_iff_not, Bool.not_eq_false', decide_eq_true_eq] at h1
    have hn : ls.length ≤ 6 := by omega
    have hvl : vals.length = ls.length := by omega
    have hck0 : ckE cs ms cake ls = 0 := by rw [hcke]; omega
    have hgE : chG cs ms cake ls vals = if inV vals = true then 0 else 1 := by
      unfold chG
      rw [if_pos hck0, if_pos (by omega)]
      by_cases h : inV vals = true
      · rw [if_pos ⟨hvl, h⟩, if_pos h]
      · rw [if_neg (fun x => h x.2), if_neg h]
    unfold chA' chN at c1
    rw [hgE] at c1
    cases hin : inV vals with
    | false =>
      rw [hin] at c1
      rw [if_neg (by simp), if_neg (by decide), if_neg (by decide)] at c1
      repeat (first | apply Wp.seq | apply Wp.block | (apply Run.next; (simp only [push_cast, seval] <;> (try simp (disch := omega) only [wI, wU, wC]) <;> exact rfl); (focus ((try simp only [push_cast, seval]) <;> exact sT))) | ((first | apply Run.nil | apply Wp.skip); dsimp only [sQ, tQ, bQ]) | (apply Wp.run; (dsimp only [List.map] <;> exact rfl); exact rfl) | (apply Wp.exit; dsimp only [sQ, tQ, bQ]; simp only [reduceIte]) | (apply Run.gtrue; (simp only [push_cast, seval] <;> (try simp (disch := omega) only [wI, wU, wC]) <;> exact rfl); (simp only [push_cast, seval] <;> (try simp (disch := omega) only [wI, wU, wC]) <;> exact rfl)) | (apply Run.gfalse (.bool false); (simp only [push_cast, seval] <;> (try simp (disch := omega) only [wI, wU, wC]) <;> exact rfl); dsimp only [S.put, optG]) | (apply Wp.condT; (simp only [push_cast, seval] <;> (try simp (disch := omega) only [wI, wU, wC]) <;> exact rfl)) | (apply Wp.condF; (simp only [push_cast, seval] <;> (try simp (disch := omega) only [wI, wU, wC]) <;> exact rfl)))
      (apply Run.pureFP; (simp only [push_cast, seval] <;> (try simp (disch := omega) only [wI, wU, wC]) <;> exact rfl); (exact (Enters.of Try.func46 rfl rfl)); (exact c1); (focus (simp only [push_cast, seval] <;> first | trivial | assumption | (refine ⟨?_, ?_⟩ <;> assumption) | (simp; done))); (try dsimp only [putA, optG]))
      repeat (first | apply Wp.seq | apply Wp.block | (apply Run.next; (simp only [push_cast, seval] <;> (try simp (disch := omega) only [wI, wU, wC]) <;> exact rfl); (focus ((try simp only [push_cast, seval]) <;> exact sT))) | ((first | apply Run.nil | apply Wp.skip); dsimp only [sQ, tQ, bQ]) | (apply Wp.run; (dsimp only [List.map] <;> exact rfl); exact rfl) | (apply Wp.exit; dsimp only [sQ, tQ, bQ]; simp only [reduceIte]) | (apply Run.gtrue; (simp only [push_cast, seval] <;> (try simp (disch := omega) only [wI, wU, wC]) <;> exact rfl); (simp only [push_cast, seval] <;> (try simp (disch := omega) only [wI, wU, wC]) <;> exact rfl)) | (apply Run.gfalse (.bool false); (simp only [push_cast, seval] <;> (try simp (disch := omega) only [wI, wU, wC]) <;> exact rfl); dsimp only [S.put, optG]) | (apply Wp.condT; (simp only [push_cast, seval] <;> (try simp (disch := omega) only [wI, wU, wC]) <;> exact rfl)) | (apply Wp.condF; (simp only [push_cast, seval] <;> (try simp (disch := omega) only [wI, wU, wC]) <;> exact rfl)))
      (apply Run.pureP; (simp only [push_cast, seval] <;> (try simp (disch := omega) only [wI, wU, wC]) <;> exact rfl); (exact (Enters.of Try.func18 rfl rfl)); (exact hw); (focus (simp only [push_cast, seval] <;> first | trivial | assumption | (refine ⟨?_, ?_⟩ <;> assumption) | (simp; done))); (try dsimp only [putA, optG]))
      repeat (first | apply Wp.seq | apply Wp.block | (apply Run.next; (simp only [push_cast, seval] <;> (try simp (disch := omega) only [wI, wU, wC]) <;> exact rfl); (focus ((try simp only [push_cast, seval]) <;> exact sT))) | ((first | apply Run.nil | apply Wp.skip); dsimp only [sQ, tQ, bQ]) | (apply Wp.run; (dsimp only [List.map] <;> exact rfl); exact rfl) | (apply Wp.exit; dsimp only [sQ, tQ, bQ]; simp only [reduceIte]) | (apply Run.gtrue; (simp only [push_cast, seval] <;> (try simp (disch := omega) only [wI, wU, wC]) <;> exact rfl); (simp only [push_cast, seval] <;> (try simp (disch := omega) only [wI, wU, wC]) <;> exact rfl)) | (apply Run.gfalse (.bool false); (simp only [push_cast, seval] <;> (try simp (disch := omega) only [wI, wU, wC]) <;> exact rfl); dsimp only [S.put, optG]) | (apply Wp.condT; (simp only [push_cast, seval] <;> (try simp (disch := omega) only [wI, wU, wC]) <;> exact rfl)) | (apply Wp.condF; (simp only [push_cast, seval] <;> (try simp (disch := omega) only [wI, wU, wC]) <;> exact rfl)))
      (apply Wp.ret; (try dsimp only [sQ, tQ, bQ]); apply leave0; exact rfl; (simp only [push_cast, seval] <;> (try simp (disch := omega) only [wI, wU, wC]) <;> exact rfl); all_goals (try simp only [push_cast, seval]); (try rfl))
    | true =>
      rw [hin] at c1
      rw [if_pos rfl, if_pos rfl, if_pos rfl, TT_pow ls.length hn] at c1
      have hvb : ∀ i, i < vals.length → 0 ≤ vals.getD i 0 ∧ vals.getD i 0 ≤ 100000 := fun i hi => by
        have h := List.all_eq_true.1 hin (vals.getD i 0) (by simp [hi])
        rw [wi_iff] at h; exact h
      obtain ⟨p, hp1, hp2, hp3, hp4⟩ := chS_inv (cs := cs) (ms := ms) (cake := cake) (ls := ls) (vals := vals) (by omega) (2 ^ ls.length) (Nat.le_refl _)
      have hmax := chS_max (cs := cs) (ms := ms) (cake := cake) (ls := ls) (vals := vals) (2 ^ ls.length)
      have hbl : (chS cs ms cake ls vals (2 ^ ls.length)).1.length ≤ 9223372036854775807 := by
        have := (chS_bd (cs := cs) (ms := ms) (cake := cake) (ls := ls) hvl hvb (2 ^ ls.length)).1; omega
      obtain ⟨w1, b1, hw1, _, hb1⟩ := worth_pure (chS cs ms cake ls vals (2 ^ ls.length)).1 hc hm hck0 hvl hn hvb hbl
      obtain ⟨rfl, rfl⟩ := hb1 p hp4 hp1 hp2
      rw [← hp3] at hw1
      obtain ⟨w2, b2, hw2, hb2, _⟩ := worth_pure oth hc hm hck0 hvl hn hvb ho
      have hfin : b2 = true → w2 < (chS cs ms cake ls vals (2 ^ ls.length)).2 ∨ (w2 = (chS cs ms cake ls vals (2 ^ ls.length)).2 ∧ (chS cs ms cake ls vals (2 ^ ls.length)).1.length ≤ oth.length) := fun h => by
        obtain ⟨s, hs1, hs2, hs3, hs4⟩ := hb2 h
        have := hmax s hs1 hs3
        rw [hs2, cL_len, hs4]; exact this
      generalize (chS cs ms cake ls vals (2 ^ ls.length)).1 = B at c1 hw1 hfin
      generalize (chS cs ms cake ls vals (2 ^ ls.length)).2 = sm at c1 hw1 hfin
      have hbool : ((!b2 || decide (w2 < sm)) || (decide (w2 = sm) && decide ((B.length : Int) ≤ (oth.length : Int)))) = true := by
        cases b2 with
        | false => rfl
        | true =>
          rcases hfin rfl with h | ⟨h1, h2⟩
          · rw [decide_eq_true h]; simp
          · rw [decide_eq_true h1, decide_eq_true (show (B.length : Int) ≤ (oth.length : Int) by omega)]; simp
      repeat (first | apply Wp.seq | apply Wp.block | (apply Run.next; (simp only [push_cast, seval, hbool] <;> (try simp (disch := omega) only [wI, wU, wC]) <;> exact rfl); (focus ((try simp only [push_cast, seval, hbool]) <;> exact sT))) | ((first | apply Run.nil | apply Wp.skip); dsimp only [sQ, tQ, bQ]) | (apply Wp.run; (dsimp only [List.map] <;> exact rfl); exact rfl) | (apply Wp.exit; dsimp only [sQ, tQ, bQ]; simp only [reduceIte]) | (apply Run.gtrue; (simp only [push_cast, seval, hbool] <;> (try simp (disch := omega) only [wI, wU, wC]) <;> exact rfl); (simp only [push_cast, seval, hbool] <;> (try simp (disch := omega) only [wI, wU, wC]) <;> exact rfl)) | (apply Run.gfalse (.bool false); (simp only [push_cast, seval, hbool] <;> (try simp (disch := omega) only [wI, wU, wC]) <;> exact rfl); dsimp only [S.put, optG]) | (apply Wp.condT; (simp only [push_cast, seval, hbool] <;> (try simp (disch := omega) only [wI, wU, wC]) <;> exact rfl)) | (apply Wp.condF; (simp only [push_cast, seval, hbool] <;> (try simp (disch := omega) only [wI, wU, wC]) <;> exact rfl)))
      (apply Run.pureFP; (simp only [push_cast, seval, hbool] <;> (try simp (disch := omega) only [wI, wU, wC]) <;> exact rfl); (exact (Enters.of Try.func46 rfl rfl)); (exact c1); (focus (simp only [push_cast, seval, hbool] <;> first | trivial | assumption | (refine ⟨?_, ?_⟩ <;> assumption) | (simp; done))); (try dsimp only [putA, optG]))
      repeat (first | apply Wp.seq | apply Wp.block | (apply Run.next; (simp only [push_cast, seval, hbool] <;> (try simp (disch := omega) only [wI, wU, wC]) <;> exact rfl); (focus ((try simp only [push_cast, seval, hbool]) <;> exact sT))) | ((first | apply Run.nil | apply Wp.skip); dsimp only [sQ, tQ, bQ]) | (apply Wp.run; (dsimp only [List.map] <;> exact rfl); exact rfl) | (apply Wp.exit; dsimp only [sQ, tQ, bQ]; simp only [reduceIte]) | (apply Run.gtrue; (simp only [push_cast, seval, hbool] <;> (try simp (disch := omega) only [wI, wU, wC]) <;> exact rfl); (simp only [push_cast, seval, hbool] <;> (try simp (disch := omega) only [wI, wU, wC]) <;> exact rfl)) | (apply Run.gfalse (.bool false); (simp only [push_cast, seval, hbool] <;> (try simp (disch := omega) only [wI, wU, wC]) <;> exact rfl); dsimp only [S.put, optG]) | (apply Wp.condT; (simp only [push_cast, seval, hbool] <;> (try simp (disch := omega) only [wI, wU, wC]) <;> exact rfl)) | (apply Wp.condF; (simp only [push_cast, seval, hbool] <;> (try simp (disch := omega) only [wI, wU, wC]) <;> exact rfl)))
      (apply Run.pureP; (simp only [push_cast, seval, hbool] <;> (try simp (disch := omega) only [wI, wU, wC]) <;> exact rfl); (exact (Enters.of Try.func48 rfl rfl)); (exact hw1); (focus (simp only [push_cast, seval, hbool] <;> first | trivial | assumption | (refine ⟨?_, ?_⟩ <;> assumption) | (simp; done))); (try dsimp only [putA, optG]))
      repeat (first | apply Wp.seq | apply Wp.block | (apply Run.next; (simp only [push_cast, seval, hbool] <;> (try simp (disch := omega) only [wI, wU, wC]) <;> exact rfl); (focus ((try simp only [push_cast, seval, hbool]) <;> exact sT))) | ((first | apply Run.nil | apply Wp.skip); dsimp only [sQ, tQ, bQ]) | (apply Wp.run; (dsimp only [List.map] <;> exact rfl); exact rfl) | (apply Wp.exit; dsimp only [sQ, tQ, bQ]; simp only [reduceIte]) | (apply Run.gtrue; (simp only [push_cast, seval, hbool] <;> (try simp (disch := omega) only [wI, wU, wC]) <;> exact rfl); (simp only [push_cast, seval, hbool] <;> (try simp (disch := omega) only [wI, wU, wC]) <;> exact rfl)) | (apply Run.gfalse (.bool false); (simp only [push_cast, seval, hbool] <;> (try simp (disch := omega) only [wI, wU, wC]) <;> exact rfl); dsimp only [S.put, optG]) | (apply Wp.condT; (simp only [push_cast, seval, hbool] <;> (try simp (disch := omega) only [wI, wU, wC]) <;> exact rfl)) | (apply Wp.condF; (simp only [push_cast, seval, hbool] <;> (try simp (disch := omega) only [wI, wU, wC]) <;> exact rfl)))
      (apply Run.pureP; (simp only [push_cast, seval, hbool] <;> (try simp (disch := omega) only [wI, wU, wC]) <;> exact rfl); (exact (Enters.of Try.func48 rfl rfl)); (exact hw2); (focus (simp only [push_cast, seval, hbool] <;> first | trivial | assumption | (refine ⟨?_, ?_⟩ <;> assumption) | (simp; done))); (try dsimp only [putA, optG]))
      repeat (first | apply Wp.seq | apply Wp.block | (apply Run.next; (simp only [push_cast, seval, hbool] <;> (try simp (disch := omega) only [wI, wU, wC]) <;> exact rfl); (focus ((try simp only [push_cast, seval, hbool]) <;> exact sT))) | ((first | apply Run.nil | apply Wp.skip); dsimp only [sQ, tQ, bQ]) | (apply Wp.run; (dsimp only [List.map] <;> exact rfl); exact rfl) | (apply Wp.exit; dsimp only [sQ, tQ, bQ]; simp only [reduceIte]) | (apply Run.gtrue; (simp only [push_cast, seval, hbool] <;> (try simp (disch := omega) only [wI, wU, wC]) <;> exact rfl); (simp only [push_cast, seval, hbool] <;> (try simp (disch := omega) only [wI, wU, wC]) <;> exact rfl)) | (apply Run.gfalse (.bool false); (simp only [push_cast, seval, hbool] <;> (try simp (disch := omega) only [wI, wU, wC]) <;> exact rfl); dsimp only [S.put, optG]) | (apply Wp.condT; (simp only [push_cast, seval, hbool] <;> (try simp (disch := omega) only [wI, wU, wC]) <;> exact rfl)) | (apply Wp.condF; (simp only [push_cast, seval, hbool] <;> (try simp (disch := omega) only [wI, wU, wC]) <;> exact rfl)))
      (apply Run.pureP; (simp only [push_cast, seval, hbool] <;> (try simp (disch := omega) only [wI, wU, wC]) <;> exact rfl); (exact (Enters.of Try.func18 rfl rfl)); (exact hw); (focus (simp only [push_cast, seval, hbool] <;> first | trivial | assumption | (refine ⟨?_, ?_⟩ <;> assumption) | (simp; done))); (try dsimp only [putA, optG]))
      repeat (first | apply Wp.seq | apply Wp.block | (apply Run.next; (simp only [push_cast, seval, hbool] <;> (try simp (disch := omega) only [wI, wU, wC]) <;> exact rfl); (focus ((try simp only [push_cast, seval, hbool]) <;> exact sT))) | ((first | apply Run.nil | apply Wp.skip); dsimp only [sQ, tQ, bQ]) | (apply Wp.run; (dsimp only [List.map] <;> exact rfl); exact rfl) | (apply Wp.exit; dsimp only [sQ, tQ, bQ]; simp only [reduceIte]) | (apply Run.gtrue; (simp only [push_cast, seval, hbool] <;> (try simp (disch := omega) only [wI, wU, wC]) <;> exact rfl); (simp only [push_cast, seval, hbool] <;> (try simp (disch := omega) only [wI, wU, wC]) <;> exact rfl)) | (apply Run.gfalse (.bool false); (simp only [push_cast, seval, hbool] <;> (try simp (disch := omega) only [wI, wU, wC]) <;> exact rfl); dsimp only [S.put, optG]) | (apply Wp.condT; (simp only [push_cast, seval, hbool] <;> (try simp (disch := omega) only [wI, wU, wC]) <;> exact rfl)) | (apply Wp.condF; (simp only [push_cast, seval, hbool] <;> (try simp (disch := omega) only [wI, wU, wC]) <;> exact rfl)))
      (apply Wp.ret; (try dsimp only [sQ, tQ, bQ]); apply leave0; exact rfl; (simp only [push_cast, seval, hbool] <;> (try simp (disch := omega) only [wI, wU, wC]) <;> exact rfl); all_goals (try simp only [push_cast, seval, hbool]); (try rfl))
end Go.Proofs.Try
