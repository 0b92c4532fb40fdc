/- A part of the proof of TopPortraits: contracts of functions, with plain laws that they need. -/
import Derived.Test.YtlcekedcjdamoaaVgFs
import Derived.Test.YtlcekedcjdamoaaVgFz
import Derived.Test.YtlcekedcjdamoaaVgSr
import Derived.Test.YtlcekedcjdamoaaVgNm
import Derived.Test.YtlcekedcjdamoaaVgP2J
set_option linter.all false
set_option maxHeartbeats 8000000
set_option maxRecDepth 20000
namespace Go.Proofs.Try
open Go.Vg

/-! the first hangings -/
def goH (most : Int) (s : List (List Int)) (h : List Int) : List (List Int) × Bool := (s ++ [h], !decide ((s.length : Int) + 1 = most))
theorem foldH (k : Nat) : ∀ (L s : List (List Int)), s.length < k → (foldB (goH k) s L).1 = s ++ L.take (k - s.length)
  | [], s, _ => by simp [foldB]
  | x :: L, s, h => by
    obtain ⟨d, hd⟩ : ∃ d, k - s.length = d + 1 := ⟨k - s.length - 1, by omega⟩
    unfold foldB
    rw [hd, List.take_succ_cons]
    by_cases h1 : s.length + 1 = k
    · have e : (goH k s x).2 = false := by
        simp only [goH, Bool.not_eq_false', decide_eq_true_eq]; omega
      have hd0 : d = 0 := by omega
      rw [if_neg (by rw [e]; simp), hd0, List.take_zero]
      rfl
    · have e : (goH k s x).2 = true := by
        simp only [goH, Bool.not_eq_true', decide_eq_false_iff_not]; omega
      have hl : (goH k s x).1.length = s.length + 1 := by simp [goH]
      rw [if_pos e, foldH k L _ (by omega), hl, show k - (s.length + 1) = d by omega]
      simp [goH]
theorem cloneZ (h : List Int) (n : Nat) (hn : n = h.length) (hl : h.length ≤ 1000) : Go.Vg.Spec Try.prog 17 [.ints h] [] (fun x m' => x = .osl 0 0 0 (h.map AV.int).length ∧ m' = [⟨0, .row 1 (h.map AV.int)⟩]) := by
  rw [List.length_map]
  exact clone_spec h (by omega)
theorem specAt {P : Program} {f : FuncId} {args : List AV} {m m' : Mem} {Q : AV → Mem → Prop} (h : m' = m) (hs : Go.Vg.Spec P f args m' Q) : Go.Vg.Spec P f args m Q := h ▸ hs
def Kh (k : Nat) (most : Int) (ls : List Pt) (t : List (Nat × AV)) (n : Nat) (ps : List Nat) (a b : Code) (s : List (List Int)) : Mem := [⟨0, .row 1 [.int most]⟩, ⟨0, .row 1 [.osl 4 s.length 0 s.length]⟩, ⟨0, .row 1 [.int k]⟩, ⟨0, .row 1 [.lst 5 (ls.map ptA)]⟩, ⟨s.length, .row 1 (s.map AV.ints)⟩, ⟨0, .dfr⟩, ⟨0, .lrec t n ps a b (if (s.length : Int) = most then some (.exit 0) else none) false⟩]
def hangE (n : Int) (l : List Pt) (most : Int) : Int := if cpE n l = 0 then (if wiP most 1 64 = true then 0 else 1) else cpE n l
def hangV (n : Int) (l : List Pt) (most : Int) : List (List Int) := if cpE n l = 0 then (if wiP most 1 64 = true then (hgV n l).take most.toNat else []) else []
def hangA (n : Int) (l : List Pt) (most : Int) : AV := if hangE n l most = 0 then .lst 1 ((hangV n l most).map AV.ints) else .emp

theorem hang_pure (n : Int) (l : List Pt) (most : Int) (hl : l.length ≤ 9223372036854775807) : Pure Try.prog 7 [.int n, .lst 5 (l.map ptA), .int most] (.tup [hangA n l most, .int (hangE n l most)]) := by
  have hcp := checkPortraits_pure n l hl
  have hok := @cpE_ok n l
  unfold hangA hangE hangV hgV
  generalize hE : cpE n l = E at hcp hok
  have hwi := within_pure most 1 64
  (refine Spec.of_body Try.func7 rfl (by rw [Try.ntmps7]; simp) 0 (by simp) ?_; rw [Try.results7, Try.ntmps7]; simp only [entry, zipArgs, Nat.reduceAdd])
  repeat (first | apply Wp.seq | apply Wp.block | (apply Run.next; (simp only [push_cast, seval] <;> (try simp (disch := omega) only [wI, wU, wC]) <;> exact rfl); (focus ((try simp only [push_cast, seval]) <;> exact sT))) | ((first | apply Run.nil | apply Wp.skip); dsimp only [sQ, tQ, bQ]) | (apply Wp.run; (dsimp only [List.map] <;> exact rfl); exact rfl) | (apply Wp.exit; dsimp only [sQ, tQ, bQ]; simp only [reduceIte]))
  (apply Run.pureP; (simp only [push_cast, seval] <;> (try simp (disch := omega) only [wI, wU, wC]) <;> exact rfl); (exact (Enters.of Try.func14 rfl rfl)); (exact hcp); (focus (simp only [push_cast, seval] <;> first | trivial | assumption | (refine ⟨?_, ?_⟩ <;> assumption) | (simp; done))); (try dsimp only [putA, optG]))
  repeat (first | apply Wp.seq | apply Wp.block | (apply Run.next; (simp only [push_cast, seval] <;> (try simp (disch := omega) only [wI, wU, wC]) <;> exact rfl); (focus ((try simp only [push_cast, seval]) <;> exact sT))) | ((first | apply Run.nil | apply Wp.skip); dsimp only [sQ, tQ, bQ]) | (apply Wp.run; (dsimp only [List.map] <;> exact rfl); exact rfl) | (apply Wp.exit; dsimp only [sQ, tQ, bQ]; simp only [reduceIte]))
  (apply Wp.cond; (simp only [push_cast, seval] <;> (try simp (disch := omega) only [wI, wU, wC]) <;> exact rfl))
  · intro hc
    simp only [Bool.not_eq_true', decide_eq_false_iff_not] at hc
    repeat (first | apply Wp.seq | apply Wp.block | (apply Run.next; (simp only [push_cast, seval] <;> (try simp (disch := omega) only [wI, wU, wC]) <;> exact rfl); (focus ((try simp only [push_cast, seval]) <;> exact sT))) | ((first | apply Run.nil | apply Wp.skip); dsimp only [sQ, tQ, bQ]) | (apply Wp.run; (dsimp only [List.map] <;> exact rfl); exact rfl) | (apply Wp.exit; dsimp only [sQ, tQ, bQ]; simp only [reduceIte]))
    (apply Wp.ret; (try dsimp only [sQ, tQ, bQ]); apply leave0; exact rfl; (simp only [push_cast, seval] <;> (try simp (disch := omega) only [wI, wU, wC]) <;> exact rfl); all_goals (try simp only [push_cast, seval]); (try rfl))
    simp [hc]
  · intro hc
    simp only [Bool.not_eq_false', decide_eq_true_eq] at hc
    subst hc
    obtain ⟨hn1, hn2, hl20, hsa⟩ := hok rfl
    obtain ⟨k, rfl⟩ : ∃ k : Nat, n = (k : Int) := ⟨n.toNat, by omega⟩
    simp only [Int.toNat_natCast, if_true]
    repeat (first | apply Wp.seq | apply Wp.block | (apply Run.next; (simp only [push_cast, seval] <;> (try simp (disch := omega) only [wI, wU, wC]) <;> exact rfl); (focus ((try simp only [push_cast, seval]) <;> exact sT))) | ((first | apply Run.nil | apply Wp.skip); dsimp only [sQ, tQ, bQ]) | (apply Wp.run; (dsimp only [List.map] <;> exact rfl); exact rfl) | (apply Wp.exit; dsimp only [sQ, tQ, bQ]; simp only [reduceIte]))
    (apply Run.pureP; (simp only [push_cast, seval] <;> (try simp (disch := omega) only [wI, wU, wC]) <;> exact rfl); (exact (Enters.of Try.func16 rfl rfl)); (exact hwi); (focus (simp only [push_cast, seval] <;> first | trivial | assumption | (refine ⟨?_, ?_⟩ <;> assumption) | (simp; done))); (try dsimp only [putA, optG]))
    repeat (first | apply Wp.seq | apply Wp.block | (apply Run.next; (simp only [push_cast, seval] <;> (try simp (disch := omega) only [wI, wU, wC]) <;> exact rfl); (focus ((try simp only [push_cast, seval]) <;> exact sT))) | ((first | apply Run.nil | apply Wp.skip); dsimp only [sQ, tQ, bQ]) | (apply Wp.run; (dsimp only [List.map] <;> exact rfl); exact rfl) | (apply Wp.exit; dsimp only [sQ, tQ, bQ]; simp only [reduceIte]))
    (apply Wp.cond; (simp only [push_cast, seval] <;> (try simp (disch := omega) only [wI, wU, wC]) <;> exact rfl))
    · intro hc
      simp only [Bool.not_eq_true'] at hc
      have hwf : wiP most 1 64 = false := hc
      repeat (first | apply Wp.seq | apply Wp.block | (apply Run.next; (simp only [push_cast, seval] <;> (try simp (disch := omega) only [wI, wU, wC]) <;> exact rfl); (focus ((try simp only [push_cast, seval]) <;> exact sT))) | ((first | apply Run.nil | apply Wp.skip); dsimp only [sQ, tQ, bQ]) | (apply Wp.run; (dsimp only [List.map] <;> exact rfl); exact rfl) | (apply Wp.exit; dsimp only [sQ, tQ, bQ]; simp only [reduceIte]))
      (apply Wp.ret; (try dsimp only [sQ, tQ, bQ]); apply leave0; exact rfl; (simp only [push_cast, seval] <;> (try simp (disch := omega) only [wI, wU, wC]) <;> exact rfl); all_goals (try simp only [push_cast, seval]); (try rfl))
      simp [hwf]
      simp only [Bool.and_eq_false_iff, decide_eq_false_iff_not] at hc
      omega
    · intro hc
      simp only [Bool.not_eq_false'] at hc
      have hwm : wiP most 1 64 = true := hc
      rw [if_pos hwm]
      simp only [Bool.and_eq_true, decide_eq_true_eq] at hc
      obtain ⟨j, rfl⟩ : ∃ j : Nat, most = (j : Int) := ⟨most.toNat, by omega⟩
      simp only [Int.toNat_natCast, if_true]
      have hlen := hgL_len (n := k) (by omega) (okH l) k []
      have hfd := foldH j (hgL k (okH l) k []) [] (by simp; omega)
      rw [List.nil_append, List.length_nil, Nat.sub_zero] at hfd
      generalize hHG : hgL k (okH l) k [] = HG at hfd hlen
      repeat (first | apply Wp.seq | apply Wp.block | (apply Run.next; (simp only [push_cast, seval] <;> (try simp (disch := omega) only [wI, wU, wC]) <;> exact rfl); (focus ((try simp only [push_cast, seval]) <;> exact sT))) | ((first | apply Run.nil | apply Wp.skip); dsimp only [sQ, tQ, bQ]) | (apply Wp.run; (dsimp only [List.map] <;> exact rfl); exact rfl) | (apply Wp.exit; dsimp only [sQ, tQ, bQ]; simp only [reduceIte]))
      (apply Run.freshE (he := (Enters.of Try.func15 rfl rfl)); (simp only [push_cast, seval] <;> first | exact rfl | assumption); (simp only [push_cast, seval] <;> (try simp (disch := omega) only [wI, wU, wC]) <;> exact rfl); (exact hangings_spec _ _); (focus (first | (simp only [push_cast, seval]; done) | trivial | (simp only [push_cast, seval]; trivial) | (simp; done))); (simp only [push_cast, seval] <;> (try simp (disch := omega) only [wI, wU, wC]) <;> exact rfl); (simp only [push_cast, seval] <;> (try simp (disch := omega) only [wI, wU, wC]) <;> exact rfl); dsimp only [S.put, optG])
      repeat (first | apply Wp.seq | apply Wp.block | (apply Run.next; (simp only [push_cast, seval] <;> (try simp (disch := omega) only [wI, wU, wC]) <;> exact rfl); (focus ((try simp only [push_cast, seval]) <;> exact sT))) | ((first | apply Run.nil | apply Wp.skip); dsimp only [sQ, tQ, bQ]) | (apply Wp.run; (dsimp only [List.map] <;> exact rfl); exact rfl) | (apply Wp.exit; dsimp only [sQ, tQ, bQ]; simp only [reduceIte]))
      simp only [shL_pt]
      refine Wp.adoptRow 1 1 (ver := 0) (sz := 1) (l := [.emp]) (l' := [.osl 4 0 0 0]) rfl ?_ ?_
      · exact ⟨.inl (.inr ⟨rfl, 4, by simp, by simp, rfl⟩), trivial⟩
      dsimp only [List.set, List.replicate, List.cons_append, List.nil_append]
      have htl : (HG.take j).length ≤ 64 := by rw [List.length_take]; omega
      refine Wp.range (by (simp only [push_cast, seval] <;> (try simp (disch := omega) only [wI, wU, wC]) <;> exact rfl)) (Enters.of Try.func33 rfl rfl) (N := 5) rfl (C := fun i M => i = (if ((HG.take j).length : Int) = j then some (.exit 0) else none) ∧ M = [⟨0, .row 1 [.int j]⟩, ⟨0, .row 1 [.osl 4 (HG.take j).length 0 (HG.take j).length]⟩, ⟨0, .row 1 [.int k]⟩, ⟨0, .row 1 [.lst 5 (l.map ptA)]⟩, ⟨(HG.take j).length, .row 1 ((HG.take j).map AV.ints)⟩]) ?_ ?_
      · have hj0 : (if ((([] : List (List Int)).length : Nat) : Int) = (j : Int) then some (Code.exit 0) else none) = none := if_neg (by simp; omega)
        refine Go.Vg.Spec.mono (specAt ?h0 (iter_spec (Kh k j l ?t ?n ?ps ?a ?b) (goH j) (fun s => s.length < j) (N := 7) (yid := 6) (wn := 2) (wl := 3) (n := k) (fun s => rfl) ?_ (fun s l => rfl) (fun s l => rfl) (by omega) hl20 (fun x hx => PV_of rfl ⟨hn1, hn2⟩ (hsa x hx)) ?_ ?_ [] (by simp; omega))) ?_
        case h0 =>
          unfold Kh
          rw [hj0]
          rfl
        · intro s e he
          unfold Kh at he
          simp only [List.mem_cons, List.not_mem_nil, or_false] at he
          rcases he with rfl | rfl | rfl | rfl | rfl | rfl | rfl <;> simp [Kind.ok, AV.ok, okL, okL_pt] <;> exact okL_map fun x => ok_ints _ x
        · intro s h hs hg
          simp only [goH, Bool.not_eq_true', decide_eq_false_iff_not] at hg ⊢
          simp only [List.length_append, List.length_cons, List.length_nil]
          omega
        · intro s h vi hs hsl hh
          have hji : (if (s.length : Int) = (j : Int) then some (Code.exit 0) else none) = none := if_neg (by omega)
          unfold Kh
          rw [hji]
          refine YSpec.of_body (id := 6) (ver := 0) rfl rfl (by simp) ?_
          intro L
          dsimp only [bindP, List.cons_append, List.nil_append]
          repeat (first | apply Wp.seq | apply Wp.block | (apply Run.next; (simp only [push_cast, seval] <;> (try simp (disch := omega) only [wI, wU, wC]) <;> exact rfl); (focus ((try simp only [push_cast, seval]) <;> exact sT))) | ((first | apply Run.nil | apply Wp.skip); dsimp only [sQ, tQ, bQ]) | (apply Wp.run; (dsimp only [List.map] <;> exact rfl); exact rfl) | (apply Wp.exit; dsimp only [sQ, tQ, bQ]; simp only [reduceIte]))
          refine ⟨rfl, rfl, ?_⟩
          dsimp only [List.set]
          repeat (first | apply Wp.seq | apply Wp.block)
          (apply Wp.runD 4 mixed; (dsimp only [List.map] <;> exact rfl); exact rfl; kernel_rfl; (dsimp only [List.take] <;> exact rfl); (dsimp only [List.drop] <;> exact rfl); (((repeat (apply Abn.next; (simp only [push_cast, seval] <;> (try simp (disch := omega) only [wI, wU, wC]) <;> exact rfl); (focus ((try simp only [push_cast, seval]) <;> exact sT)))); (apply Abn.freshZ; (simp only [push_cast, seval] <;> (try simp (disch := omega) only [wI, wU, wC]) <;> exact rfl); (exact (Enters.of Try.func17 rfl rfl)); (exact cloneZ h k hsl.symm (by omega)); (exact VwL.cons (Vw.ointsP k hsl.symm rfl) VwL.nil); (simp only [push_cast, seval] <;> first | trivial | (simp; done)); (try dsimp only [putA])); (repeat (apply Abn.next; (simp only [push_cast, seval] <;> (try simp (disch := omega) only [wI, wU, wC]) <;> exact rfl); (focus ((try simp only [push_cast, seval]) <;> exact sT))))); exact Abn.nil))
          repeat (first | apply Wp.seq | apply Wp.block | (apply Run.next; (simp only [push_cast, seval] <;> (try simp (disch := omega) only [wI, wU, wC]) <;> exact rfl); (focus ((try simp only [push_cast, seval]) <;> exact sT))) | ((first | apply Run.nil | apply Wp.skip); dsimp only [sQ, tQ, bQ]) | (apply Wp.run; (dsimp only [List.map] <;> exact rfl); exact rfl) | (apply Wp.exit; dsimp only [sQ, tQ, bQ]; simp only [reduceIte]))
          (apply Wp.cond; (simp only [push_cast, seval] <;> (try simp (disch := omega) only [wI, wU, wC]) <;> exact rfl))
          · intro hc
            repeat (first | apply Wp.seq | apply Wp.block | (apply Run.next; (simp only [push_cast, seval] <;> (try simp (disch := omega) only [wI, wU, wC]) <;> exact rfl); (focus ((try simp only [push_cast, seval]) <;> exact sT))) | ((first | apply Run.nil | apply Wp.skip); dsimp only [sQ, tQ, bQ]) | (apply Wp.run; (dsimp only [List.map] <;> exact rfl); exact rfl) | (apply Wp.exit; dsimp only [sQ, tQ, bQ]; simp only [reduceIte]))
            simp only [decide_eq_true_eq] at hc
            apply Wp.exit
            dsimp only [bQ]
            rw [if_neg (by decide)]
            dsimp only [roundQ]
            refine ⟨rfl, ?_, ?_, ?_⟩
            · simp only [push_cast, seval]
            · simp [goH, hc]
            · simp only [goH, List.length_append, List.length_cons, List.length_nil, Nat.zero_add, List.map_append, List.map_cons, List.map_nil]
              rw [if_pos (by omega)]
              rfl
          · intro hc
            repeat (first | apply Wp.seq | apply Wp.block | (apply Run.next; (simp only [push_cast, seval] <;> (try simp (disch := omega) only [wI, wU, wC]) <;> exact rfl); (focus ((try simp only [push_cast, seval]) <;> exact sT))) | ((first | apply Run.nil | apply Wp.skip); dsimp only [sQ, tQ, bQ]) | (apply Wp.run; (dsimp only [List.map] <;> exact rfl); exact rfl) | (apply Wp.exit; dsimp only [sQ, tQ, bQ]; simp only [reduceIte]))
            simp only [decide_eq_false_iff_not] at hc
            refine ⟨rfl, ?_, ?_, ?_⟩
            · simp only [push_cast, seval]
            · simp [goH, hc]
            · simp only [goH, List.length_append, List.length_cons, List.length_nil, Nat.zero_add, List.map_append, List.map_cons, List.map_nil]
              rw [if_neg (by omega)]
              rfl
        · rintro x m' rfl
          rw [hHG, hfd]
          exact ⟨_, _, ⟨rfl, rfl⟩, rfl, rfl⟩
      · rintro M i ⟨hi, rfl⟩
        have hi2 : i = none ∨ i = some (.exit 0) := by rw [hi]; split <;> simp
        clear hi
        generalize HG.take j = out at htl
        rcases hi2 with rfl | rfl
        · dsimp only [bQ, sQ, tQ, List.cons_append, List.nil_append]
          refine Wp.freezeRow 1 4 (vi := out.length) (off := 0) (len := out.length) (szi := 1) (li := out.map AV.ints) (le' := [.lst 1 (out.map AV.ints)]) (by decide) rfl rfl (by simp) (by simp) ?_ ?_
          · exact ⟨.inl (.inr ⟨rfl, by rw [List.drop_zero, List.take_of_length_le (by simp)]⟩), trivial⟩
          dsimp only [List.set]
          repeat (first | apply Wp.seq | apply Wp.block | (apply Run.next; (simp only [push_cast, seval] <;> (try simp (disch := omega) only [wI, wU, wC]) <;> exact rfl); (focus ((try simp only [push_cast, seval]) <;> exact sT))) | ((first | apply Run.nil | apply Wp.skip); dsimp only [sQ, tQ, bQ]) | (apply Wp.run; (dsimp only [List.map] <;> exact rfl); exact rfl) | (apply Wp.exit; dsimp only [sQ, tQ, bQ]; simp only [reduceIte]))
          (apply Wp.ret; (try dsimp only [sQ, tQ, bQ]); apply leaveM; (focus (first | (simp only [push_cast, seval]; done) | trivial | (simp only [push_cast, seval]; trivial) | (simp; done))); (focus (first | (simp only [push_cast, seval]; done) | trivial | (simp only [push_cast, seval]; trivial) | (simp; done))); (simp only [push_cast, seval] <;> (try simp (disch := omega) only [wI, wU, wC]) <;> exact rfl); (focus (first | (simp only [push_cast, seval]; done) | trivial | (simp only [push_cast, seval]; trivial) | (simp; done))); (focus (first | (simp only [push_cast, seval]; done) | trivial | (simp only [push_cast, seval]; trivial) | (simp; done))); (focus (first | (simp only [push_cast, seval]; done) | trivial | (simp only [push_cast, seval]; trivial) | (simp; done))); (try simp only [push_cast, seval]))
          rw [if_pos (by omega)]
        · apply Wp.exit
          dsimp only [bQ]
          rw [if_pos rfl]
          dsimp only [bQ, sQ, tQ, List.cons_append, List.nil_append]
          refine Wp.freezeRow 1 4 (vi := out.length) (off := 0) (len := out.length) (szi := 1) (li := out.map AV.ints) (le' := [.lst 1 (out.map AV.ints)]) (by decide) rfl rfl (by simp) (by simp) ?_ ?_
          · exact ⟨.inl (.inr ⟨rfl, by rw [List.drop_zero, List.take_of_length_le (by simp)]⟩), trivial⟩
          dsimp only [List.set]
          repeat (first | apply Wp.seq | apply Wp.block | (apply Run.next; (simp only [push_cast, seval] <;> (try simp (disch := omega) only [wI, wU, wC]) <;> exact rfl); (focus ((try simp only [push_cast, seval]) <;> exact sT))) | ((first | apply Run.nil | apply Wp.skip); dsimp only [sQ, tQ, bQ]) | (apply Wp.run; (dsimp only [List.map] <;> exact rfl); exact rfl) | (apply Wp.exit; dsimp only [sQ, tQ, bQ]; simp only [reduceIte]))
          (apply Wp.ret; (try dsimp only [sQ, tQ, bQ]); apply leaveM; (focus (first | (simp only [push_cast, seval]; done) | trivial | (simp only [push_cast, seval]; trivial) | (simp; done))); (focus (first | (simp only [push_cast, seval]; done) | trivial | (simp only [push_cast, seval]; trivial) | (simp; done))); (simp only [push_cast, seval] <;> (try simp (disch := omega) only [wI, wU, wC]) <;> exact rfl); (focus (first | (simp only [push_cast, seval]; done) | trivial | (simp only [push_cast, seval]; trivial) | (simp; done))); (focus (first | (simp only [push_cast, seval]; done) | trivial | (simp only [push_cast, seval]; trivial) | (simp; done))); (focus (first | (simp only [push_cast, seval]; done) | trivial | (simp only [push_cast, seval]; trivial) | (simp; done))); (try simp only [push_cast, seval]))
          rw [if_pos (by omega)]
end Go.Proofs.Try
set_option maxHeartbeats 8000000
set_option maxRecDepth 20000
namespace Go.Proofs.Try
open Go.Vg

/-! portraits as clues -/
theorem tsame_pure (a b : List Int) : Pure Try.prog 10 [.ints a, .ints b] (.bool (decide (a = b))) := by
  (refine Spec.of_body Try.func10 rfl (by rw [Try.ntmps10]; simp) 0 (by simp) ?_; rw [Try.results10, Try.ntmps10]; simp only [entry, zipArgs, Nat.reduceAdd])
  apply Wp.len 0; (simp only [push_cast, seval] <;> (try simp (disch := omega) only [wI, wU, wC]) <;> exact rfl)
  intro hlen
  simp only [List.length_map] at hlen
  repeat (first | apply Wp.seq | apply Wp.block | (apply Run.next; (simp only [push_cast, seval] <;> (try simp (disch := omega) only [wI, wU, wC]) <;> exact rfl); (focus ((try simp only [push_cast, seval]) <;> exact sT))) | ((first | apply Run.nil | apply Wp.skip); dsimp only [sQ, tQ, bQ]) | (apply Wp.run; (dsimp only [List.map] <;> exact rfl); exact rfl) | (apply Wp.exit; dsimp only [sQ, tQ, bQ]; simp only [reduceIte]))
  (apply Wp.cond; (simp only [push_cast, seval] <;> (try simp (disch := omega) only [wI, wU, wC]) <;> exact rfl))
  · (intro hc; try simp only [decide_eq_true_eq, decide_eq_false_iff_not, Bool.and_eq_true, Bool.or_eq_true, Bool.not_eq_true, Bool.not_eq_false, Bool.not_eq_true', Bool.not_eq_false', Bool.and_eq_false_iff, Bool.or_eq_false_iff, Int.not_lt, Int.not_le, Int.ofNat_lt, Int.ofNat_le] at hc)
    repeat (first | apply Wp.seq | apply Wp.block | (apply Run.next; (simp only [push_cast, seval] <;> (try simp (disch := omega) only [wI, wU, wC]) <;> exact rfl); (focus ((try simp only [push_cast, seval]) <;> exact sT))) | ((first | apply Run.nil | apply Wp.skip); dsimp only [sQ, tQ, bQ]) | (apply Wp.run; (dsimp only [List.map] <;> exact rfl); exact rfl) | (apply Wp.exit; dsimp only [sQ, tQ, bQ]; simp only [reduceIte]))
    (apply Wp.ret; (try dsimp only [sQ, tQ, bQ]); apply leave0; exact rfl; (simp only [push_cast, seval] <;> (try simp (disch := omega) only [wI, wU, wC]) <;> exact rfl); all_goals (try simp only [push_cast, seval]); (try rfl))
    rw [decide_eq_false]
    intro h
    rw [h] at hc
    exact hc rfl
  · (intro hc; try simp only [decide_eq_true_eq, decide_eq_false_iff_not, Bool.and_eq_true, Bool.or_eq_true, Bool.not_eq_true, Bool.not_eq_false, Bool.not_eq_true', Bool.not_eq_false', Bool.and_eq_false_iff, Bool.or_eq_false_iff, Int.not_lt, Int.not_le, Int.ofNat_lt, Int.ofNat_le] at hc)
    repeat (first | apply Wp.seq | apply Wp.block | (apply Run.next; (simp only [push_cast, seval] <;> (try simp (disch := omega) only [wI, wU, wC]) <;> exact rfl); (focus ((try simp only [push_cast, seval]) <;> exact sT))) | ((first | apply Run.nil | apply Wp.skip); dsimp only [sQ, tQ, bQ]) | (apply Wp.run; (dsimp only [List.map] <;> exact rfl); exact rfl) | (apply Wp.exit; dsimp only [sQ, tQ, bQ]; simp only [reduceIte]))
    refine Wp.loop (fun k : Nat => { t := [(0, .ints a), (1, .ints b), (5, .int k)], m := [], n := 26 }) (fun k => k ≤ a.length ∧ ∀ j, j < k → a.getD j 0 = b.getD j 0) (fun k => a.length - k) 0 ?_ ?_ ?_
    · (refine Le.of ?_ ?_ rfl rfl <;> (try simp only [push_cast, seval]) <;> (try (with_reducible rfl)))
    · simp
    · rintro k ⟨hk1, hk2⟩
      repeat (first | apply Wp.seq | apply Wp.block | (apply Run.next; (simp only [push_cast, seval] <;> (try simp (disch := omega) only [wI, wU, wC]) <;> exact rfl); (focus ((try simp only [push_cast, seval]) <;> exact sT))) | ((first | apply Run.nil | apply Wp.skip); dsimp only [sQ, tQ, bQ]) | (apply Wp.run; (dsimp only [List.map] <;> exact rfl); exact rfl) | (apply Wp.exit; dsimp only [sQ, tQ, bQ]; simp only [reduceIte]))
      (apply Wp.cond; (simp only [push_cast, seval] <;> (try simp (disch := omega) only [wI, wU, wC]) <;> exact rfl))
      · (intro hc; try simp only [decide_eq_true_eq, decide_eq_false_iff_not, Bool.and_eq_true, Bool.or_eq_true, Bool.not_eq_true, Bool.not_eq_false, Bool.not_eq_true', Bool.not_eq_false', Bool.and_eq_false_iff, Bool.or_eq_false_iff, Int.not_lt, Int.not_le, Int.ofNat_lt, Int.ofNat_le] at hc)
        repeat (first | apply Wp.seq | apply Wp.block | (apply Run.next; (simp only [push_cast, seval] <;> (try simp (disch := omega) only [wI, wU, wC]) <;> exact rfl); (focus ((try simp only [push_cast, seval]) <;> exact sT))) | ((first | apply Run.nil | apply Wp.skip); dsimp only [sQ, tQ, bQ]) | (apply Wp.run; (dsimp only [List.map] <;> exact rfl); exact rfl) | (apply Wp.exit; dsimp only [sQ, tQ, bQ]; simp only [reduceIte]))
        (apply Wp.runD 9 mixed; (dsimp only [List.map] <;> exact rfl); exact rfl; kernel_rfl; (dsimp only [List.take] <;> exact rfl); (dsimp only [List.drop] <;> exact rfl); (((repeat (apply Abn.next; (simp only [push_cast, seval] <;> (try simp (disch := omega) only [wI, wU, wC]) <;> exact rfl); (focus ((try simp only [push_cast, seval]) <;> exact sT))))); exact Abn.nil))
        repeat (first | apply Wp.seq | apply Wp.block | (apply Run.next; (simp only [push_cast, seval] <;> (try simp (disch := omega) only [wI, wU, wC]) <;> exact rfl); (focus ((try simp only [push_cast, seval]) <;> exact sT))) | ((first | apply Run.nil | apply Wp.skip); dsimp only [sQ, tQ, bQ]) | (apply Wp.run; (dsimp only [List.map] <;> exact rfl); exact rfl) | (apply Wp.exit; dsimp only [sQ, tQ, bQ]; simp only [reduceIte]))
        (apply Wp.cond; (simp only [push_cast, seval] <;> (try simp (disch := omega) only [wI, wU, wC]) <;> exact rfl))
        · intro h2
          repeat (first | apply Wp.seq | apply Wp.block | (apply Run.next; (simp only [push_cast, seval] <;> (try simp (disch := omega) only [wI, wU, wC]) <;> exact rfl); (focus ((try simp only [push_cast, seval]) <;> exact sT))) | ((first | apply Run.nil | apply Wp.skip); dsimp only [sQ, tQ, bQ]) | (apply Wp.run; (dsimp only [List.map] <;> exact rfl); exact rfl) | (apply Wp.exit; dsimp only [sQ, tQ, bQ]; simp only [reduceIte]))
          (apply Wp.ret; (try dsimp only [sQ, tQ, bQ]); apply leave0; exact rfl; (simp only [push_cast, seval] <;> (try simp (disch := omega) only [wI, wU, wC]) <;> exact rfl); all_goals (try simp only [push_cast, seval]); (try rfl))
          rw [decide_eq_false]
          intro h
          rw [h] at h2
          simp at h2
        · intro h2
          repeat (first | apply Wp.seq | apply Wp.block | (apply Run.next; (simp only [push_cast, seval] <;> (try simp (disch := omega) only [wI, wU, wC]) <;> exact rfl); (focus ((try simp only [push_cast, seval]) <;> exact sT))) | ((first | apply Run.nil | apply Wp.skip); dsimp only [sQ, tQ, bQ]) | (apply Wp.run; (dsimp only [List.map] <;> exact rfl); exact rfl) | (apply Wp.exit; dsimp only [sQ, tQ, bQ]; simp only [reduceIte]))
          simp only [decide_eq_true_eq, Bool.not_eq_false', decide_eq_false_iff_not] at h2
          refine ⟨k + 1, ?_, ⟨by omega, fun j hj => ?_⟩, by omega⟩
          · (refine Le.of ?_ ?_ rfl rfl <;> (try simp only [push_cast, seval]) <;> (try (with_reducible rfl)))
          · by_cases hjk : j = k
            · subst hjk; exact h2
            · exact hk2 j (by omega)
      · (intro hc; try simp only [decide_eq_true_eq, decide_eq_false_iff_not, Bool.and_eq_true, Bool.or_eq_true, Bool.not_eq_true, Bool.not_eq_false, Bool.not_eq_true', Bool.not_eq_false', Bool.and_eq_false_iff, Bool.or_eq_false_iff, Int.not_lt, Int.not_le, Int.ofNat_lt, Int.ofNat_le] at hc)
        repeat (first | apply Wp.seq | apply Wp.block | (apply Run.next; (simp only [push_cast, seval] <;> (try simp (disch := omega) only [wI, wU, wC]) <;> exact rfl); (focus ((try simp only [push_cast, seval]) <;> exact sT))) | ((first | apply Run.nil | apply Wp.skip); dsimp only [sQ, tQ, bQ]) | (apply Wp.run; (dsimp only [List.map] <;> exact rfl); exact rfl) | (apply Wp.exit; dsimp only [sQ, tQ, bQ]; simp only [reduceIte]))
        (apply Wp.ret; (try dsimp only [sQ, tQ, bQ]); apply leave0; exact rfl; (simp only [push_cast, seval] <;> (try simp (disch := omega) only [wI, wU, wC]) <;> exact rfl); all_goals (try simp only [push_cast, seval]); (try rfl))
        rw [decide_eq_true]
        apply List.ext_getElem
        · omega
        · intro j h3 h4
          have := hk2 j (by omega)
          simpa [h3, h4] using this
def atP (x : Pt) : Cl := ⟨1, x.n, 0, x.a, 0, x.no⟩
def smP (a b : Nat) : Cl := ⟨4, a, b, 0, 0, true⟩
def prI (i k : Nat) : List Cl := (List.range' (i + 1) (k - (i + 1))).map (smP i)
theorem prI_zero (i : Nat) : prI i (i + 1) = [] := by simp [prI]
theorem prI_succ {i k : Nat} (h : i + 1 ≤ k) : prI i (k + 1) = prI i k ++ [smP i k] := by
  unfold prI
  rw [show k + 1 - (i + 1) = (k - (i + 1)) + 1 by omega, List.range'_concat, List.map_append]
  simp only [List.map_cons, List.map_nil]
  rw [show i + 1 + 1 * (k - (i + 1)) = k by omega]
def prL (n i : Nat) : List Cl := (List.range i).flatMap fun a => prI a n
theorem prL_succ (n i : Nat) : prL n (i + 1) = prL n i ++ prI i n := by
  unfold prL
  rw [List.range_succ, List.flatMap_append]
  simp
def clN (l : List Pt) (n i : Nat) : List Cl := l.map atP ++ prL n i
theorem clN_zero (l : List Pt) (n : Nat) : clN l n 0 = l.map atP := by simp [clN, prL]
theorem clN_succ (l : List Pt) (n i : Nat) : clN l n (i + 1) = clN l n i ++ prI i n := by
  unfold clN
  rw [prL_succ, List.append_assoc]
theorem prI_len (i k : Nat) : (prI i k).length = k - (i + 1) := by simp [prI]
theorem prL_good {n : Nat} {x : Cl} (i : Nat) (hi : i ≤ n) (h : x ∈ prL n i) : goodC n n x := by
  unfold prL prI at h
  obtain ⟨a, ha, h⟩ := List.mem_flatMap.1 h
  obtain ⟨b, hb, rfl⟩ := List.mem_map.1 h
  have ha := List.mem_range.1 ha
  have hb := List.mem_range'_1.1 hb
  right
  unfold smP
  dsimp only
  omega
theorem prL_len (n : Nat) (h : n ≤ 4) : (prL n n).length ≤ 6 := by
  have : n = 0 ∨ n = 1 ∨ n = 2 ∨ n = 3 ∨ n = 4 := by omega
  rcases this with rfl | rfl | rfl | rfl | rfl <;> decide
/-- all codes without a symbol twice are the orders -/
theorem ord_codes {n : Nat} (h1 : 2 ≤ n) (h2 : n ≤ 4) : (codesN n n).filter (fun c => (prL n n).all fun x => hoC x c) = ordL n n [] := by
  have : n = 2 ∨ n = 3 ∨ n = 4 := by omega
  rcases this with rfl | rfl | rfl <;> decide +kernel
def inB (n : Nat) (I : List Int) : Bool := (List.range n).all fun a => (List.range n).all fun j => decide (plcN I (a : Int) = (j : Int)) == decide (I.getD j 0 = (a : Int))
theorem ord_in {n : Nat} (h1 : 2 ≤ n) (h2 : n ≤ 4) : (ordL n n []).all (inB n) = true := by
  have : n = 2 ∨ n = 3 ∨ n = 4 := by omega
  rcases this with rfl | rfl | rfl <;> decide +kernel
theorem ho_at {n : Nat} {x : Pt} {I : List Int} (hk : x.kind = 1) (ha : 0 ≤ x.a ∧ x.a < n) (hn : 0 ≤ x.n ∧ x.n < n) (h : inB n I = true) : hoQ x I = hoC (atP x) I := by
  obtain ⟨a, ea⟩ : ∃ a : Nat, x.a = (a : Int) := ⟨x.a.toNat, by omega⟩
  obtain ⟨j, ej⟩ : ∃ j : Nat, x.n = (j : Int) := ⟨x.n.toNat, by omega⟩
  unfold inB at h
  have h1 := List.all_eq_true.1 h a (List.mem_range.2 (by omega))
  have h2 := List.all_eq_true.1 h1 j (List.mem_range.2 (by omega))
  rw [beq_iff_eq] at h2
  unfold hoQ hoC isP plC atP
  dsimp only
  rw [if_pos hk, if_pos rfl, ea, ej, Int.toNat_natCast, h2]
theorem sa_hang {n : Int} {x : Pt} (hk : x.kind = 1) (h : saB n x = true) : (0 ≤ x.a ∧ x.a < n) ∧ (0 ≤ x.n ∧ x.n < n) := by
  unfold saB wiP at h
  rw [if_pos hk] at h
  simp only [Bool.and_eq_true, decide_eq_true_eq] at h
  omega
theorem hang_read {n : Nat} {l : List Pt} (h1 : 2 ≤ n) (h2 : n ≤ 4) (hk : ∀ x ∈ l, x.kind = 1) (hs : ∀ x ∈ l, saB n x = true) : hgL n (okH l) n [] = rdgN (failC (clN l n n)) n n := by
  unfold rdgN hgL
  have e : (fun c => decide (failC (clN l n n) c < 0)) = fun c => ((l.map atP).all fun x => hoC x c) && ((prL n n).all fun x => hoC x c) := by
    funext c
    rw [failC_neg]
    unfold clN
    rw [List.all_append]
  rw [e, ← ord_codes h1 h2, List.filter_filter]
  have h3 := ord_in h1 h2
  rw [← ord_codes h1 h2] at h3
  refine List.filter_congr fun c hc => ?_
  cases hb : (prL n n).all fun x => hoC x c with
  | false => simp
  | true =>
    have hi := List.all_eq_true.1 h3 c (List.mem_filter.2 ⟨hc, hb⟩)
    rw [Bool.and_true, Bool.and_true]
    unfold okH
    rw [List.all_map]
    refine Bool.eq_iff_iff.2 ?_
    rw [List.all_eq_true, List.all_eq_true]
    refine ⟨fun h x hx => ?_, fun h x hx => ?_⟩
    · obtain ⟨q1, q2⟩ := sa_hang (hk x hx) (hs x hx)
      rw [Function.comp, ← ho_at (hk x hx) q1 q2 hi]
      exact h x hx
    · obtain ⟨q1, q2⟩ := sa_hang (hk x hx) (hs x hx)
      have := h x hx
      rw [Function.comp, ← ho_at (hk x hx) q1 q2 hi] at this
      exact this
theorem cl_good {n : Nat} {l : List Pt} (hk : ∀ x ∈ l, x.kind = 1) (hs : ∀ x ∈ l, saB n x = true) : ∀ x ∈ clN l n n, goodC n n x := by
  intro x hx
  rcases List.mem_append.1 hx with hx | hx
  · obtain ⟨y, hy, rfl⟩ := List.mem_map.1 hx
    obtain ⟨q1, q2⟩ := sa_hang (hk y hy) (hs y hy)
    left
    unfold atP
    dsimp only
    omega
  · exact prL_good n (Nat.le_refl _) hx
def clB (x : Cl) : AV := .agg [.int x.kind, .int x.a, .int x.b, .int x.n, .int x.m, .emp, .bool x.no]
theorem SbL.clues : ∀ (l : List Cl), SbL (l.map clB) (l.map clA)
  | [] => .nil
  | x :: l => .cons (.agg (.cons (.refl _) (.cons (.refl _) (.cons (.refl _) (.cons (.refl _) (.cons (.refl _) (.cons (.emp 1) (.cons (.refl _) .nil)))))))) (SbL.clues l)
theorem shL_cl (k : Nat) : ∀ l : List Cl, shiftL k (l.map clA) = l.map clA
  | [] => rfl
  | x :: l => by
    have := shL_cl k l
    simp only [List.map_cons, shiftL, this]
    rfl
end Go.Proofs.Try
set_option maxHeartbeats 8000000
set_option maxRecDepth 20000
namespace Go.Proofs.Try
open Go.Vg

theorem clB_snoc (l : List Cl) (x : Cl) : (l ++ [x]).map clB = l.map clB ++ [.agg [.int x.kind, .int x.a, .int x.b, .int x.n, .int x.m, .emp, .bool x.no]] := by simp [clB]
theorem prL_le (n : Nat) : ∀ i, (prL n i).length ≤ i * n
  | 0 => by simp [prL]
  | i + 1 => by
    have := prL_le n i
    rw [prL_succ, List.length_append, prI_len, Nat.succ_mul]
    omega
theorem tpGuard_pure (n : Int) (l : List Pt) (h : ¬ (2 ≤ n ∧ n ≤ 4 ∧ l.length ≤ 14)) : Pure Try.prog 3 [.int n, .lst 5 (l.map ptA)] (.bool true) := by
  have hc := counts_pure
  (refine Spec.of_body Try.func3 rfl (by rw [Try.ntmps3]; simp) 0 (by simp) ?_; rw [Try.results3, Try.ntmps3]; simp only [entry, zipArgs, Nat.reduceAdd])
  by_cases h1 : n < 2
  · have e1 : decide (n < 2) = true := decide_eq_true h1
    repeat (first | apply Wp.seq | apply Wp.block | (apply Run.next; (simp only [push_cast, seval, e1] <;> (try simp (disch := omega) only [wI, wU, wC]) <;> exact rfl); (focus ((try simp only [push_cast, seval, e1]) <;> exact sT))) | ((first | apply Run.nil | apply Wp.skip); dsimp only [sQ, tQ, bQ]) | (apply Wp.run; (dsimp only [List.map] <;> exact rfl); exact rfl) | (apply Wp.exit; dsimp only [sQ, tQ, bQ]; simp only [reduceIte]) | (apply Run.gtrue; (simp only [push_cast, seval, e1] <;> (try simp (disch := omega) only [wI, wU, wC]) <;> exact rfl); (simp only [push_cast, seval, e1] <;> (try simp (disch := omega) only [wI, wU, wC]) <;> exact rfl)) | (apply Run.gfalse (.bool false); (simp only [push_cast, seval, e1] <;> (try simp (disch := omega) only [wI, wU, wC]) <;> exact rfl); dsimp only [S.put, optG]) | (apply Wp.condT; (simp only [push_cast, seval, e1] <;> (try simp (disch := omega) only [wI, wU, wC]) <;> exact rfl)) | (apply Wp.condF; (simp only [push_cast, seval, e1] <;> (try simp (disch := omega) only [wI, wU, wC]) <;> exact rfl)))
    (apply Run.pureP; (simp only [push_cast, seval, e1] <;> (try simp (disch := omega) only [wI, wU, wC]) <;> exact rfl); (exact (Enters.of Try.func5 rfl rfl)); (exact hc); (focus (simp only [push_cast, seval, e1] <;> first | trivial | assumption | (refine ⟨?_, ?_⟩ <;> assumption) | (simp; done))); (try dsimp only [putA, optG]))
    repeat (first | apply Wp.seq | apply Wp.block | (apply Run.next; (simp only [push_cast, seval, e1] <;> (try simp (disch := omega) only [wI, wU, wC]) <;> exact rfl); (focus ((try simp only [push_cast, seval, e1]) <;> exact sT))) | ((first | apply Run.nil | apply Wp.skip); dsimp only [sQ, tQ, bQ]) | (apply Wp.run; (dsimp only [List.map] <;> exact rfl); exact rfl) | (apply Wp.exit; dsimp only [sQ, tQ, bQ]; simp only [reduceIte]))
    (apply Wp.ret; (try dsimp only [sQ, tQ, bQ]); apply leave0; exact rfl; (simp only [push_cast, seval, e1] <;> (try simp (disch := omega) only [wI, wU, wC]) <;> exact rfl); all_goals (try simp only [push_cast, seval, e1]); (try rfl))
  · have e1 : decide (n < 2) = false := decide_eq_false h1
    by_cases h2 : 4 < n
    · have e2 : decide (4 < n) = true := decide_eq_true h2
      repeat (first | apply Wp.seq | apply Wp.block | (apply Run.next; (simp only [push_cast, seval, e1, e2] <;> (try simp (disch := omega) only [wI, wU, wC]) <;> exact rfl); (focus ((try simp only [push_cast, seval, e1, e2]) <;> exact sT))) | ((first | apply Run.nil | apply Wp.skip); dsimp only [sQ, tQ, bQ]) | (apply Wp.run; (dsimp only [List.map] <;> exact rfl); exact rfl) | (apply Wp.exit; dsimp only [sQ, tQ, bQ]; simp only [reduceIte]) | (apply Run.gtrue; (simp only [push_cast, seval, e1, e2] <;> (try simp (disch := omega) only [wI, wU, wC]) <;> exact rfl); (simp only [push_cast, seval, e1, e2] <;> (try simp (disch := omega) only [wI, wU, wC]) <;> exact rfl)) | (apply Run.gfalse (.bool false); (simp only [push_cast, seval, e1, e2] <;> (try simp (disch := omega) only [wI, wU, wC]) <;> exact rfl); dsimp only [S.put, optG]) | (apply Wp.condT; (simp only [push_cast, seval, e1, e2] <;> (try simp (disch := omega) only [wI, wU, wC]) <;> exact rfl)) | (apply Wp.condF; (simp only [push_cast, seval, e1, e2] <;> (try simp (disch := omega) only [wI, wU, wC]) <;> exact rfl)))
      (apply Run.pureP; (simp only [push_cast, seval, e1, e2] <;> (try simp (disch := omega) only [wI, wU, wC]) <;> exact rfl); (exact (Enters.of Try.func5 rfl rfl)); (exact hc); (focus (simp only [push_cast, seval, e1, e2] <;> first | trivial | assumption | (refine ⟨?_, ?_⟩ <;> assumption) | (simp; done))); (try dsimp only [putA, optG]))
      repeat (first | apply Wp.seq | apply Wp.block | (apply Run.next; (simp only [push_cast, seval, e1, e2] <;> (try simp (disch := omega) only [wI, wU, wC]) <;> exact rfl); (focus ((try simp only [push_cast, seval, e1, e2]) <;> exact sT))) | ((first | apply Run.nil | apply Wp.skip); dsimp only [sQ, tQ, bQ]) | (apply Wp.run; (dsimp only [List.map] <;> exact rfl); exact rfl) | (apply Wp.exit; dsimp only [sQ, tQ, bQ]; simp only [reduceIte]))
      (apply Wp.ret; (try dsimp only [sQ, tQ, bQ]); apply leave0; exact rfl; (simp only [push_cast, seval, e1, e2] <;> (try simp (disch := omega) only [wI, wU, wC]) <;> exact rfl); all_goals (try simp only [push_cast, seval, e1, e2]); (try rfl))
    · have e2 : decide (4 < n) = false := decide_eq_false h2
      have e3 : decide ((14 : Int) < (l.length : Int)) = true := decide_eq_true (by omega)
      repeat (first | apply Wp.seq | apply Wp.block | (apply Run.next; (simp only [push_cast, seval, e1, e2, e3] <;> (try simp (disch := omega) only [wI, wU, wC]) <;> exact rfl); (focus ((try simp only [push_cast, seval, e1, e2, e3]) <;> exact sT))) | ((first | apply Run.nil | apply Wp.skip); dsimp only [sQ, tQ, bQ]) | (apply Wp.run; (dsimp only [List.map] <;> exact rfl); exact rfl) | (apply Wp.exit; dsimp only [sQ, tQ, bQ]; simp only [reduceIte]) | (apply Run.gtrue; (simp only [push_cast, seval, e1, e2, e3] <;> (try simp (disch := omega) only [wI, wU, wC]) <;> exact rfl); (simp only [push_cast, seval, e1, e2, e3] <;> (try simp (disch := omega) only [wI, wU, wC]) <;> exact rfl)) | (apply Run.gfalse (.bool false); (simp only [push_cast, seval, e1, e2, e3] <;> (try simp (disch := omega) only [wI, wU, wC]) <;> exact rfl); dsimp only [S.put, optG]) | (apply Wp.condT; (simp only [push_cast, seval, e1, e2, e3] <;> (try simp (disch := omega) only [wI, wU, wC]) <;> exact rfl)) | (apply Wp.condF; (simp only [push_cast, seval, e1, e2, e3] <;> (try simp (disch := omega) only [wI, wU, wC]) <;> exact rfl)))
      (apply Run.pureP; (simp only [push_cast, seval, e1, e2, e3] <;> (try simp (disch := omega) only [wI, wU, wC]) <;> exact rfl); (exact (Enters.of Try.func5 rfl rfl)); (exact hc); (focus (simp only [push_cast, seval, e1, e2, e3] <;> first | trivial | assumption | (refine ⟨?_, ?_⟩ <;> assumption) | (simp; done))); (try dsimp only [putA, optG]))
      repeat (first | apply Wp.seq | apply Wp.block | (apply Run.next; (simp only [push_cast, seval, e1, e2, e3] <;> (try simp (disch := omega) only [wI, wU, wC]) <;> exact rfl); (focus ((try simp only [push_cast, seval, e1, e2, e3]) <;> exact sT))) | ((first | apply Run.nil | apply Wp.skip); dsimp only [sQ, tQ, bQ]) | (apply Wp.run; (dsimp only [List.map] <;> exact rfl); exact rfl) | (apply Wp.exit; dsimp only [sQ, tQ, bQ]; simp only [reduceIte]))
      (apply Wp.ret; (try dsimp only [sQ, tQ, bQ]); apply leave0; exact rfl; (simp only [push_cast, seval, e1, e2, e3] <;> (try simp (disch := omega) only [wI, wU, wC]) <;> exact rfl); all_goals (try simp only [push_cast, seval, e1, e2, e3]); (try rfl))
theorem lawPortraits_in (n : Nat) (l : List Pt) (h1 : 2 ≤ n) (h2 : n ≤ 4) (hl : l.length ≤ 14) : Pure Try.prog 3 [.int n, .lst 5 (l.map ptA)] (.bool true) := by
  have hc := counts_pure
  have hcc := counts_pure
  have g1 : decide ((n : Int) < 2) = false := decide_eq_false (by omega)
  have g2 : decide ((4 : Int) < (n : Int)) = false := decide_eq_false (by omega)
  have g3 : decide ((14 : Int) < (l.length : Int)) = false := decide_eq_false (by omega)
  (refine Spec.of_body Try.func3 rfl (by rw [Try.ntmps3]; simp) 0 (by simp) ?_; rw [Try.results3, Try.ntmps3]; simp only [entry, zipArgs, Nat.reduceAdd])
  repeat (first | apply Wp.seq | apply Wp.block | (apply Run.next; (simp only [push_cast, seval, g1, g2, g3] <;> (try simp (disch := omega) only [wI, wU, wC]) <;> exact rfl); (focus ((try simp only [push_cast, seval, g1, g2, g3]) <;> exact sT))) | ((first | apply Run.nil | apply Wp.skip); dsimp only [sQ, tQ, bQ]) | (apply Wp.run; (dsimp only [List.map] <;> exact rfl); exact rfl) | (apply Wp.exit; dsimp only [sQ, tQ, bQ]; simp only [reduceIte]) | (apply Run.gtrue; (simp only [push_cast, seval, g1, g2, g3] <;> (try simp (disch := omega) only [wI, wU, wC]) <;> exact rfl); (simp only [push_cast, seval, g1, g2, g3] <;> (try simp (disch := omega) only [wI, wU, wC]) <;> exact rfl)) | (apply Run.gfalse (.bool false); (simp only [push_cast, seval, g1, g2, g3] <;> (try simp (disch := omega) only [wI, wU, wC]) <;> exact rfl); dsimp only [S.put, optG]) | (apply Wp.condT; (simp only [push_cast, seval, g1, g2, g3] <;> (try simp (disch := omega) only [wI, wU, wC]) <;> exact rfl)) | (apply Wp.condF; (simp only [push_cast, seval, g1, g2, g3] <;> (try simp (disch := omega) only [wI, wU, wC]) <;> exact rfl)))
  refine Wp.adopt 6 7 (by (simp only [push_cast, seval, g1, g2, g3] <;> (try simp (disch := omega) only [wI, wU, wC]) <;> exact rfl)) ?_
  refine Wp.loop (fun k : Nat => { t := [(0, .int n), (1, .lst 5 (l.map ptA)), (5, .optr 0 0 0 0), (6, .osl 1 k 0 k), (7, .int k)], m := [⟨0, .row 2 [lkA n n]⟩, ⟨k, .row 7 (((l.take k).map atP).map clB)⟩], n := 158 }) (fun k => k ≤ l.length ∧ ∀ j, j < k → (l.getD j pt0).kind = 1) (fun k => l.length - k) 0 ?_ ?_ ?_
  · (refine Le.of ?_ ?_ rfl rfl <;> (try simp only [push_cast, seval, g1, g2, g3]) <;> (try (with_reducible rfl)))
  · simp
  · rintro k ⟨hk1, hk2⟩
    have hkl : ((l.take k).map atP).length = k := by simp; omega
    by_cases hc1 : k < l.length
    · have e1 : decide ((k : Int) < (l.length : Int)) = true := decide_eq_true (by omega)
      by_cases hkd : (l.getD k pt0).kind = 1
      · generalize hx : l.getD k pt0 = x at hkd
        have e2 : decide (x.kind = 1) = true := decide_eq_true hkd
        repeat (first | apply Wp.seq | apply Wp.block | (apply Run.next; (simp only [push_cast, seval, g1, g2, g3, e1, e2, hx, hkl, List.length_map] <;> (try simp (disch := omega) only [wI, wU, wC]) <;> exact rfl); (focus ((try simp only [push_cast, seval, g1, g2, g3, e1, e2, hx, hkl, List.length_map]) <;> exact sT))) | ((first | apply Run.nil | apply Wp.skip); dsimp only [sQ, tQ, bQ]) | (apply Wp.run; (dsimp only [List.map] <;> exact rfl); exact rfl) | (apply Wp.exit; dsimp only [sQ, tQ, bQ]; simp only [reduceIte]) | (apply Run.gtrue; (simp only [push_cast, seval, g1, g2, g3, e1, e2, hx, hkl, List.length_map] <;> (try simp (disch := omega) only [wI, wU, wC]) <;> exact rfl); (simp only [push_cast, seval, g1, g2, g3, e1, e2, hx, hkl, List.length_map] <;> (try simp (disch := omega) only [wI, wU, wC]) <;> exact rfl)) | (apply Run.gfalse (.bool false); (simp only [push_cast, seval, g1, g2, g3, e1, e2, hx, hkl, List.length_map] <;> (try simp (disch := omega) only [wI, wU, wC]) <;> exact rfl); dsimp only [S.put, optG]) | (apply Wp.condT; (simp only [push_cast, seval, g1, g2, g3, e1, e2, hx, hkl, List.length_map] <;> (try simp (disch := omega) only [wI, wU, wC]) <;> exact rfl)) | (apply Wp.condF; (simp only [push_cast, seval, g1, g2, g3, e1, e2, hx, hkl, List.length_map] <;> (try simp (disch := omega) only [wI, wU, wC]) <;> exact rfl)))
        repeat (first | apply Wp.seq | apply Wp.block)
        (apply Wp.runD 18 mixed; (dsimp only [List.map] <;> exact rfl); exact rfl; kernel_rfl; (dsimp only [List.take] <;> exact rfl); (dsimp only [List.drop] <;> exact rfl); (((repeat (apply Abn.next; (simp only [push_cast, seval, g1, g2, g3, e1, e2, hx, hkl, List.length_map] <;> (try simp (disch := omega) only [wI, wU, wC]) <;> exact rfl); (focus ((try simp only [push_cast, seval, g1, g2, g3, e1, e2, hx, hkl, List.length_map]) <;> exact sT))))); exact Abn.nil))
        repeat (first | apply Wp.seq | apply Wp.block | (apply Run.next; (simp only [push_cast, seval, g1, g2, g3, e1, e2, hx, hkl, List.length_map] <;> (try simp (disch := omega) only [wI, wU, wC]) <;> exact rfl); (focus ((try simp only [push_cast, seval, g1, g2, g3, e1, e2, hx, hkl, List.length_map]) <;> exact sT))) | ((first | apply Run.nil | apply Wp.skip); dsimp only [sQ, tQ, bQ]) | (apply Wp.run; (dsimp only [List.map] <;> exact rfl); exact rfl) | (apply Wp.exit; dsimp only [sQ, tQ, bQ]; simp only [reduceIte]))
        have htk : (l.take (k + 1)).map atP = (l.take k).map atP ++ [atP x] := by
          rw [List.take_succ_eq_append_getElem hc1, List.map_append]
          have : l[k] = x := by rw [← hx]; simp [hc1]
          rw [this]; rfl
        refine ⟨k + 1, ?_, ⟨by omega, fun j hj => ?_⟩, by omega⟩
        · rw [htk, clB_snoc]
          (refine Le.of ?_ ?_ rfl rfl <;> (try simp only [push_cast, seval, g1, g2, g3, e1, e2, hx, hkl, List.length_map]) <;> (try (with_reducible rfl)))
          rw [List.take_of_length_le (by omega)]
          rfl
        · by_cases hjk : j = k
          · subst hjk; rw [hx]; exact hkd
          · exact hk2 j (by omega)
      · generalize hx : l.getD k pt0 = x at hkd
        have e2 : decide (x.kind = 1) = false := decide_eq_false hkd
        repeat (first | apply Wp.seq | apply Wp.block | (apply Run.next; (simp only [push_cast, seval, g1, g2, g3, e1, e2, hx] <;> (try simp (disch := omega) only [wI, wU, wC]) <;> exact rfl); (focus ((try simp only [push_cast, seval, g1, g2, g3, e1, e2, hx]) <;> exact sT))) | ((first | apply Run.nil | apply Wp.skip); dsimp only [sQ, tQ, bQ]) | (apply Wp.run; (dsimp only [List.map] <;> exact rfl); exact rfl) | (apply Wp.exit; dsimp only [sQ, tQ, bQ]; simp only [reduceIte]) | (apply Run.gtrue; (simp only [push_cast, seval, g1, g2, g3, e1, e2, hx] <;> (try simp (disch := omega) only [wI, wU, wC]) <;> exact rfl); (simp only [push_cast, seval, g1, g2, g3, e1, e2, hx] <;> (try simp (disch := omega) only [wI, wU, wC]) <;> exact rfl)) | (apply Run.gfalse (.bool false); (simp only [push_cast, seval, g1, g2, g3, e1, e2, hx] <;> (try simp (disch := omega) only [wI, wU, wC]) <;> exact rfl); dsimp only [S.put, optG]) | (apply Wp.condT; (simp only [push_cast, seval, g1, g2, g3, e1, e2, hx] <;> (try simp (disch := omega) only [wI, wU, wC]) <;> exact rfl)) | (apply Wp.condF; (simp only [push_cast, seval, g1, g2, g3, e1, e2, hx] <;> (try simp (disch := omega) only [wI, wU, wC]) <;> exact rfl)))
        (apply Run.pureP; (simp only [push_cast, seval, g1, g2, g3, e1, e2, hx] <;> (try simp (disch := omega) only [wI, wU, wC]) <;> exact rfl); (exact (Enters.of Try.func5 rfl rfl)); (exact hc); (focus (simp only [push_cast, seval, g1, g2, g3, e1, e2, hx] <;> first | trivial | assumption | (refine ⟨?_, ?_⟩ <;> assumption) | (simp; done))); (try dsimp only [putA, optG]))
        repeat (first | apply Wp.seq | apply Wp.block | (apply Run.next; (simp only [push_cast, seval, g1, g2, g3, e1, e2, hx] <;> (try simp (disch := omega) only [wI, wU, wC]) <;> exact rfl); (focus ((try simp only [push_cast, seval, g1, g2, g3, e1, e2, hx]) <;> exact sT))) | ((first | apply Run.nil | apply Wp.skip); dsimp only [sQ, tQ, bQ]) | (apply Wp.run; (dsimp only [List.map] <;> exact rfl); exact rfl) | (apply Wp.exit; dsimp only [sQ, tQ, bQ]; simp only [reduceIte]))
        (apply Wp.ret; (try dsimp only [sQ, tQ, bQ]); apply leave0; exact rfl; (simp only [push_cast, seval, g1, g2, g3, e1, e2, hx] <;> (try simp (disch := omega) only [wI, wU, wC]) <;> exact rfl); all_goals (try simp only [push_cast, seval, g1, g2, g3, e1, e2, hx]); (try rfl))
    · obtain rfl : k = l.length := by omega
      have e1 : decide ((l.length : Int) < (l.length : Int)) = false := decide_eq_false (by omega)
      have hkk : ∀ x ∈ l, x.kind = 1 := by
        intro x hx
        obtain ⟨i, hi, rfl⟩ := List.getElem_of_mem hx
        have := hk2 i hi
        simpa [hi] using this
      clear hk1 hk2
      rw [List.take_of_length_le (Nat.le_refl _)] at hkl ⊢
      repeat (first | apply Wp.seq | apply Wp.block | (apply Run.next; (simp only [push_cast, seval, g1, g2, g3, e1] <;> (try simp (disch := omega) only [wI, wU, wC]) <;> exact rfl); (focus ((try simp only [push_cast, seval, g1, g2, g3, e1]) <;> exact sT))) | ((first | apply Run.nil | apply Wp.skip); dsimp only [sQ, tQ, bQ]) | (apply Wp.run; (dsimp only [List.map] <;> exact rfl); exact rfl) | (apply Wp.exit; dsimp only [sQ, tQ, bQ]; simp only [reduceIte]) | (apply Run.gtrue; (simp only [push_cast, seval, g1, g2, g3, e1] <;> (try simp (disch := omega) only [wI, wU, wC]) <;> exact rfl); (simp only [push_cast, seval, g1, g2, g3, e1] <;> (try simp (disch := omega) only [wI, wU, wC]) <;> exact rfl)) | (apply Run.gfalse (.bool false); (simp only [push_cast, seval, g1, g2, g3, e1] <;> (try simp (disch := omega) only [wI, wU, wC]) <;> exact rfl); dsimp only [S.put, optG]) | (apply Wp.condT; (simp only [push_cast, seval, g1, g2, g3, e1] <;> (try simp (disch := omega) only [wI, wU, wC]) <;> exact rfl)) | (apply Wp.condF; (simp only [push_cast, seval, g1, g2, g3, e1] <;> (try simp (disch := omega) only [wI, wU, wC]) <;> exact rfl)))
      refine Wp.loop (fun i : Nat => { t := [(0, .int n), (1, .lst 5 (l.map ptA)), (5, .optr 0 0 0 0), (6, .osl 1 (clN l n i).length 0 (clN l n i).length), (8, .int i)], m := [⟨0, .row 2 [lkA n n]⟩, ⟨(clN l n i).length, .row 7 ((clN l n i).map clB)⟩], n := 158 }) (fun i => i ≤ n) (fun i => n - i) 0 ?_ ?_ ?_
      · simp only [clN_zero, List.length_map]
        (refine Le.of ?_ ?_ rfl rfl <;> (try simp only [push_cast, seval, g1, g2, g3, e1]) <;> (try (with_reducible rfl)))
      · simp
      · intro i hi
        by_cases hin : i < n
        · have e2 : decide ((i : Int) < (n : Int)) = true := decide_eq_true (by omega)
          repeat (first | apply Wp.seq | apply Wp.block | (apply Run.next; (simp only [push_cast, seval, e2] <;> (try simp (disch := omega) only [wI, wU, wC]) <;> exact rfl); (focus ((try simp only [push_cast, seval, e2]) <;> exact sT))) | ((first | apply Run.nil | apply Wp.skip); dsimp only [sQ, tQ, bQ]) | (apply Wp.run; (dsimp only [List.map] <;> exact rfl); exact rfl) | (apply Wp.exit; dsimp only [sQ, tQ, bQ]; simp only [reduceIte]) | (apply Run.gtrue; (simp only [push_cast, seval, e2] <;> (try simp (disch := omega) only [wI, wU, wC]) <;> exact rfl); (simp only [push_cast, seval, e2] <;> (try simp (disch := omega) only [wI, wU, wC]) <;> exact rfl)) | (apply Run.gfalse (.bool false); (simp only [push_cast, seval, e2] <;> (try simp (disch := omega) only [wI, wU, wC]) <;> exact rfl); dsimp only [S.put, optG]) | (apply Wp.condT; (simp only [push_cast, seval, e2] <;> (try simp (disch := omega) only [wI, wU, wC]) <;> exact rfl)) | (apply Wp.condF; (simp only [push_cast, seval, e2] <;> (try simp (disch := omega) only [wI, wU, wC]) <;> exact rfl)))
          refine Wp.loop (fun k : Nat => { t := [(0, .int n), (1, .lst 5 (l.map ptA)), (5, .optr 0 0 0 0), (6, .osl 1 (clN l n i ++ prI i k).length 0 (clN l n i ++ prI i k).length), (8, .int i), (9, .int k)], m := [⟨0, .row 2 [lkA n n]⟩, ⟨(clN l n i ++ prI i k).length, .row 7 ((clN l n i ++ prI i k).map clB)⟩], n := 158 }) (fun k => i + 1 ≤ k ∧ k ≤ n) (fun k => n - k) (i + 1) ?_ ?_ ?_
          · simp only [prI_zero, List.append_nil]
            (refine Le.of ?_ ?_ rfl rfl <;> (try simp only [push_cast, seval, e2]) <;> (try (with_reducible rfl)))
          · omega
          · rintro k ⟨hk1, hk2⟩
            by_cases hkn : k < n
            · have e3 : decide ((k : Int) < (n : Int)) = true := decide_eq_true (by omega)
              have hsz : (clN l n i ++ prI i k).length ≤ 1000 := by
                have e1 := prL_le n i
                have e4 : i * n ≤ 4 * 4 := Nat.mul_le_mul (by omega) h2
                rw [List.length_append, prI_len]
                unfold clN
                rw [List.length_append, List.length_map]
                omega
              have hnx : clN l n i ++ prI i (k + 1) = (clN l n i ++ prI i k) ++ [smP i k] := by rw [prI_succ hk1, List.append_assoc]
              generalize hG : clN l n i ++ prI i k = G at hsz hnx
              repeat (first | apply Wp.seq | apply Wp.block | (apply Run.next; (simp only [push_cast, seval, e2, e3, List.length_map] <;> (try simp (disch := omega) only [wI, wU, wC]) <;> exact rfl); (focus ((try simp only [push_cast, seval, e2, e3, List.length_map]) <;> exact sT))) | ((first | apply Run.nil | apply Wp.skip); dsimp only [sQ, tQ, bQ]) | (apply Wp.run; (dsimp only [List.map] <;> exact rfl); exact rfl) | (apply Wp.exit; dsimp only [sQ, tQ, bQ]; simp only [reduceIte]) | (apply Run.gtrue; (simp only [push_cast, seval, e2, e3, List.length_map] <;> (try simp (disch := omega) only [wI, wU, wC]) <;> exact rfl); (simp only [push_cast, seval, e2, e3, List.length_map] <;> (try simp (disch := omega) only [wI, wU, wC]) <;> exact rfl)) | (apply Run.gfalse (.bool false); (simp only [push_cast, seval, e2, e3, List.length_map] <;> (try simp (disch := omega) only [wI, wU, wC]) <;> exact rfl); dsimp only [S.put, optG]) | (apply Wp.condT; (simp only [push_cast, seval, e2, e3, List.length_map] <;> (try simp (disch := omega) only [wI, wU, wC]) <;> exact rfl)) | (apply Wp.condF; (simp only [push_cast, seval, e2, e3, List.length_map] <;> (try simp (disch := omega) only [wI, wU, wC]) <;> exact rfl)))
              refine ⟨k + 1, ?_, by omega, by omega⟩
              rw [hnx, clB_snoc]
              (refine Le.of ?_ ?_ rfl rfl <;> (try simp only [push_cast, seval, e2, e3, List.length_map]) <;> (try (with_reducible rfl)))
              all_goals rw [List.length_append]
              all_goals rfl
            · obtain rfl : k = n := by omega
              have e3 : decide ((k : Int) < (k : Int)) = false := decide_eq_false (by omega)
              repeat (first | apply Wp.seq | apply Wp.block | (apply Run.next; (simp only [push_cast, seval, e2, e3] <;> (try simp (disch := omega) only [wI, wU, wC]) <;> exact rfl); (focus ((try simp only [push_cast, seval, e2, e3]) <;> exact sT))) | ((first | apply Run.nil | apply Wp.skip); dsimp only [sQ, tQ, bQ]) | (apply Wp.run; (dsimp only [List.map] <;> exact rfl); exact rfl) | (apply Wp.exit; dsimp only [sQ, tQ, bQ]; simp only [reduceIte]) | (apply Run.gtrue; (simp only [push_cast, seval, e2, e3] <;> (try simp (disch := omega) only [wI, wU, wC]) <;> exact rfl); (simp only [push_cast, seval, e2, e3] <;> (try simp (disch := omega) only [wI, wU, wC]) <;> exact rfl)) | (apply Run.gfalse (.bool false); (simp only [push_cast, seval, e2, e3] <;> (try simp (disch := omega) only [wI, wU, wC]) <;> exact rfl); dsimp only [S.put, optG]) | (apply Wp.condT; (simp only [push_cast, seval, e2, e3] <;> (try simp (disch := omega) only [wI, wU, wC]) <;> exact rfl)) | (apply Wp.condF; (simp only [push_cast, seval, e2, e3] <;> (try simp (disch := omega) only [wI, wU, wC]) <;> exact rfl)))
              refine ⟨i + 1, ?_, by omega, by omega⟩
              rw [clN_succ]
              (refine Le.of ?_ ?_ rfl rfl <;> (try simp only [push_cast, seval, e2, e3]) <;> (try (with_reducible rfl)))
        · obtain rfl : i = n := by omega
          have e2 : decide ((i : Int) < (i : Int)) = false := decide_eq_false (by omega)
          have hH := hangN_pure i l (by omega)
          have hA := hang_pure i l 64 (by omega)
          have hok := @cpE_ok i l
          unfold hgV at hH
          unfold hangA hangE hangV hgV at hA
          by_cases hE : cpE i l = 0
          · obtain ⟨_, _, _, hsa⟩ := hok hE
            rw [if_pos hE] at hH
            rw [hE] at hH
            have hw1 : wiP 64 1 64 = true := rfl
            simp only [if_pos hE, if_pos hw1, if_true, Int.toNat_natCast] at hA hH
            have hrd := hang_read h1 h2 hkk hsa
            rw [hrd] at hA hH
            have hcg := cl_good hkk hsa
            have hl20 : (clN l i i).length ≤ 20 := by
              have := prL_len i h2
              unfold clN
              rw [List.length_append, List.length_map]
              omega
            have hfl : ∀ c ∈ codesN i i, Pure Try.prog 44 [.lst 7 ((clN l i i).map clA), .ints c] (.int (failC (clN l i i) c)) := by
              intro c hc
              obtain ⟨hcl, _⟩ := codes_bd (by omega) hc
              exact fails_pure hcg (by omega) hl20
            have hck : Pure Try.prog 18 [lkA i i, .lst 7 ((clN l i i).map clA)] (.int 0) := checkClues_pure (by omega) (by omega) (by omega) (by omega) hl20 hcg
            have hCt := Count_pure (fun k => okL_cl k _) (fun k => shL_cl k _) (by omega) h2 h1 (by omega) hck hfl
            have hRd := Readings_pure (j := 64) (fun k => okL_cl k _) (fun k => shL_cl k _) (by omega) h2 h1 (by omega) (by omega) (by omega) hck hfl
            generalize rdgN (failC (clN l i i)) i i = RD at hH hA hCt hRd
            have hVl : (RD.take (Int.toNat 64)).length ≤ 64 := by rw [List.length_take]; exact Nat.min_le_left _ _
            rw [show (64 : Nat) = Int.toNat 64 from rfl] at hRd
            generalize RD.take (Int.toNat 64) = V at hA hRd hVl
            generalize hG : clN l i i = G at hCt hRd ⊢
            refine Wp.subRow 1 rfl (SbL.clues _) ?_
            dsimp only [List.set]
            have hGl : (G.map clA).length = G.length := List.length_map clA
            repeat (first | apply Wp.seq | apply Wp.block | (apply Run.next; (simp only [push_cast, seval, e2, hGl] <;> (try simp (disch := omega) only [wI, wU, wC]) <;> exact rfl); (focus ((try simp only [push_cast, seval, e2, hGl]) <;> exact sT))) | ((first | apply Run.nil | apply Wp.skip); dsimp only [sQ, tQ, bQ]) | (apply Wp.run; (dsimp only [List.map] <;> exact rfl); exact rfl) | (apply Wp.exit; dsimp only [sQ, tQ, bQ]; simp only [reduceIte]) | (apply Run.gtrue; (simp only [push_cast, seval, e2, hGl] <;> (try simp (disch := omega) only [wI, wU, wC]) <;> exact rfl); (simp only [push_cast, seval, e2, hGl] <;> (try simp (disch := omega) only [wI, wU, wC]) <;> exact rfl)) | (apply Run.gfalse (.bool false); (simp only [push_cast, seval, e2, hGl] <;> (try simp (disch := omega) only [wI, wU, wC]) <;> exact rfl); dsimp only [S.put, optG]) | (apply Wp.condT; (simp only [push_cast, seval, e2, hGl] <;> (try simp (disch := omega) only [wI, wU, wC]) <;> exact rfl)) | (apply Wp.condF; (simp only [push_cast, seval, e2, hGl] <;> (try simp (disch := omega) only [wI, wU, wC]) <;> exact rfl)))
            (apply Run.pureP; (simp only [push_cast, seval, e2, hGl] <;> (try simp (disch := omega) only [wI, wU, wC]) <;> exact rfl); (exact (Enters.of Try.func6 rfl rfl)); (exact hH); (focus (simp only [push_cast, seval, e2, hGl] <;> first | trivial | assumption | (refine ⟨?_, ?_⟩ <;> assumption) | (simp; done))); (try dsimp only [putA, optG]))
            repeat (first | apply Wp.seq | apply Wp.block | (apply Run.next; (simp only [push_cast, seval, e2, hGl] <;> (try simp (disch := omega) only [wI, wU, wC]) <;> exact rfl); (focus ((try simp only [push_cast, seval, e2, hGl]) <;> exact sT))) | ((first | apply Run.nil | apply Wp.skip); dsimp only [sQ, tQ, bQ]) | (apply Wp.run; (dsimp only [List.map] <;> exact rfl); exact rfl) | (apply Wp.exit; dsimp only [sQ, tQ, bQ]; simp only [reduceIte]) | (apply Run.gtrue; (simp only [push_cast, seval, e2, hGl] <;> (try simp (disch := omega) only [wI, wU, wC]) <;> exact rfl); (simp only [push_cast, seval, e2, hGl] <;> (try simp (disch := omega) only [wI, wU, wC]) <;> exact rfl)) | (apply Run.gfalse (.bool false); (simp only [push_cast, seval, e2, hGl] <;> (try simp (disch := omega) only [wI, wU, wC]) <;> exact rfl); dsimp only [S.put, optG]) | (apply Wp.condT; (simp only [push_cast, seval, e2, hGl] <;> (try simp (disch := omega) only [wI, wU, wC]) <;> exact rfl)) | (apply Wp.condF; (simp only [push_cast, seval, e2, hGl] <;> (try simp (disch := omega) only [wI, wU, wC]) <;> exact rfl)))
            (apply Run.freeze 103; (simp only [push_cast, seval, e2, hGl] <;> (try simp (disch := omega) only [wI, wU, wC]) <;> exact rfl); (simp only [push_cast, seval, e2, hGl] <;> (try simp (disch := omega) only [wI, wU, wC]) <;> exact rfl); (focus (try simp only [push_cast, seval, e2, hGl]); (try (exact sT))); (focus (exact sT)); (simp only [push_cast, seval, e2, hGl] <;> (try simp (disch := omega) only [wI, wU, wC]) <;> exact rfl); (simp only [push_cast, seval, e2, hGl] <;> (try simp (disch := omega) only [wI, wU, wC]) <;> exact rfl))
            (apply Run.pureFP; (simp only [push_cast, seval, e2, hGl] <;> (try simp (disch := omega) only [wI, wU, wC]) <;> exact rfl); (exact (Enters.of Try.func7 rfl rfl)); (exact hA); (focus (simp only [push_cast, seval, e2, hGl] <;> first | trivial | assumption | (refine ⟨?_, ?_⟩ <;> assumption) | (simp; done))); (try dsimp only [putA, optG]))
            repeat (first | apply Wp.seq | apply Wp.block | (apply Run.next; (simp only [push_cast, seval, e2, hGl] <;> (try simp (disch := omega) only [wI, wU, wC]) <;> exact rfl); (focus ((try simp only [push_cast, seval, e2, hGl]) <;> exact sT))) | ((first | apply Run.nil | apply Wp.skip); dsimp only [sQ, tQ, bQ]) | (apply Wp.run; (dsimp only [List.map] <;> exact rfl); exact rfl) | (apply Wp.exit; dsimp only [sQ, tQ, bQ]; simp only [reduceIte]) | (apply Run.gtrue; (simp only [push_cast, seval, e2, hGl] <;> (try simp (disch := omega) only [wI, wU, wC]) <;> exact rfl); (simp only [push_cast, seval, e2, hGl] <;> (try simp (disch := omega) only [wI, wU, wC]) <;> exact rfl)) | (apply Run.gfalse (.bool false); (simp only [push_cast, seval, e2, hGl] <;> (try simp (disch := omega) only [wI, wU, wC]) <;> exact rfl); dsimp only [S.put, optG]) | (apply Wp.condT; (simp only [push_cast, seval, e2, hGl] <;> (try simp (disch := omega) only [wI, wU, wC]) <;> exact rfl)) | (apply Wp.condF; (simp only [push_cast, seval, e2, hGl] <;> (try simp (disch := omega) only [wI, wU, wC]) <;> exact rfl)))
            (apply Run.pureP; (simp only [push_cast, seval, e2, hGl] <;> (try simp (disch := omega) only [wI, wU, wC]) <;> exact rfl); (exact (Enters.of Try.func8 rfl rfl)); (exact hCt); (focus (simp only [push_cast, seval, e2, hGl] <;> first | trivial | assumption | (refine ⟨?_, ?_⟩ <;> assumption) | (simp; done))); (try dsimp only [putA, optG]))
            repeat (first | apply Wp.seq | apply Wp.block | (apply Run.next; (simp only [push_cast, seval, e2, hGl] <;> (try simp (disch := omega) only [wI, wU, wC]) <;> exact rfl); (focus ((try simp only [push_cast, seval, e2, hGl]) <;> exact sT))) | ((first | apply Run.nil | apply Wp.skip); dsimp only [sQ, tQ, bQ]) | (apply Wp.run; (dsimp only [List.map] <;> exact rfl); exact rfl) | (apply Wp.exit; dsimp only [sQ, tQ, bQ]; simp only [reduceIte]) | (apply Run.gtrue; (simp only [push_cast, seval, e2, hGl] <;> (try simp (disch := omega) only [wI, wU, wC]) <;> exact rfl); (simp only [push_cast, seval, e2, hGl] <;> (try simp (disch := omega) only [wI, wU, wC]) <;> exact rfl)) | (apply Run.gfalse (.bool false); (simp only [push_cast, seval, e2, hGl] <;> (try simp (disch := omega) only [wI, wU, wC]) <;> exact rfl); dsimp only [S.put, optG]) | (apply Wp.condT; (simp only [push_cast, seval, e2, hGl] <;> (try simp (disch := omega) only [wI, wU, wC]) <;> exact rfl)) | (apply Wp.condF; (simp only [push_cast, seval, e2, hGl] <;> (try simp (disch := omega) only [wI, wU, wC]) <;> exact rfl)))
            (apply Run.freeze 115; (simp only [push_cast, seval, e2, hGl] <;> (try simp (disch := omega) only [wI, wU, wC]) <;> exact rfl); (simp only [push_cast, seval, e2, hGl] <;> (try simp (disch := omega) only [wI, wU, wC]) <;> exact rfl); (focus (try simp only [push_cast, seval, e2, hGl]); (try (exact sT))); (focus (exact sT)); (simp only [push_cast, seval, e2, hGl] <;> (try simp (disch := omega) only [wI, wU, wC]) <;> exact rfl); (simp only [push_cast, seval, e2, hGl] <;> (try simp (disch := omega) only [wI, wU, wC]) <;> exact rfl))
            (apply Run.pureFP; (simp only [push_cast, seval, e2, hGl] <;> (try simp (disch := omega) only [wI, wU, wC]) <;> exact rfl); (exact (Enters.of Try.func9 rfl rfl)); (exact hRd); (focus (simp only [push_cast, seval, e2, hGl] <;> first | trivial | assumption | (refine ⟨?_, ?_⟩ <;> assumption) | (simp; done))); (try dsimp only [putA, optG]))
            repeat (first | apply Wp.seq | apply Wp.block | (apply Run.next; (simp only [push_cast, seval, e2, hGl] <;> (try simp (disch := omega) only [wI, wU, wC]) <;> exact rfl); (focus ((try simp only [push_cast, seval, e2, hGl]) <;> exact sT))) | ((first | apply Run.nil | apply Wp.skip); dsimp only [sQ, tQ, bQ]) | (apply Wp.run; (dsimp only [List.map] <;> exact rfl); exact rfl) | (apply Wp.exit; dsimp only [sQ, tQ, bQ]; simp only [reduceIte]) | (apply Run.gtrue; (simp only [push_cast, seval, e2, hGl] <;> (try simp (disch := omega) only [wI, wU, wC]) <;> exact rfl); (simp only [push_cast, seval, e2, hGl] <;> (try simp (disch := omega) only [wI, wU, wC]) <;> exact rfl)) | (apply Run.gfalse (.bool false); (simp only [push_cast, seval, e2, hGl] <;> (try simp (disch := omega) only [wI, wU, wC]) <;> exact rfl); dsimp only [S.put, optG]) | (apply Wp.condT; (simp only [push_cast, seval, e2, hGl] <;> (try simp (disch := omega) only [wI, wU, wC]) <;> exact rfl)) | (apply Wp.condF; (simp only [push_cast, seval, e2, hGl] <;> (try simp (disch := omega) only [wI, wU, wC]) <;> exact rfl)))
            refine Wp.loop (fun k : Nat => { t := [(12, .lst 1 (V.map AV.ints)), (16, .lst 1 (V.map AV.ints)), (18, .int k)], m := [⟨0, .row 2 [lkA i i]⟩, ⟨G.length + 1, .row 7 []⟩, ⟨0, .row 5 (l.map ptA)⟩, ⟨1, .row 5 []⟩], n := 158 }) (fun k => k ≤ V.length) (fun k => V.length - k) 0 ?_ ?_ ?_
            · (refine Le.of ?_ ?_ rfl rfl <;> (try simp only [push_cast, seval, e2, hGl]) <;> (try (with_reducible rfl)))
            · simp
            · intro k hk
              repeat (first | apply Wp.seq | apply Wp.block | (apply Run.next; (simp only [push_cast, seval] <;> (try simp (disch := omega) only [wI, wU, wC]) <;> exact rfl); (focus ((try simp only [push_cast, seval]) <;> exact sT))) | ((first | apply Run.nil | apply Wp.skip); dsimp only [sQ, tQ, bQ]) | (apply Wp.run; (dsimp only [List.map] <;> exact rfl); exact rfl) | (apply Wp.exit; dsimp only [sQ, tQ, bQ]; simp only [reduceIte]))
              (apply Wp.cond; (simp only [push_cast, seval] <;> (try simp (disch := omega) only [wI, wU, wC]) <;> exact rfl))
              · intro hc
                simp only [decide_eq_true_eq, Int.ofNat_lt] at hc
                have hs := tsame_pure (V.getD k []) (V.getD k [])
                rw [decide_eq_true rfl] at hs
                repeat (first | apply Wp.seq | apply Wp.block | (apply Run.next; (simp only [push_cast, seval] <;> (try simp (disch := omega) only [wI, wU, wC]) <;> exact rfl); (focus ((try simp only [push_cast, seval]) <;> exact sT))) | ((first | apply Run.nil | apply Wp.skip); dsimp only [sQ, tQ, bQ]) | (apply Wp.run; (dsimp only [List.map] <;> exact rfl); exact rfl) | (apply Wp.exit; dsimp only [sQ, tQ, bQ]; simp only [reduceIte]))
                (apply Wp.runD 10 mixed; (dsimp only [List.map] <;> exact rfl); exact rfl; kernel_rfl; (dsimp only [List.take] <;> exact rfl); (dsimp only [List.drop] <;> exact rfl); (((repeat (apply Abn.next; (simp only [push_cast, seval] <;> (try simp (disch := omega) only [wI, wU, wC]) <;> exact rfl); (focus ((try simp only [push_cast, seval]) <;> exact sT)))); (apply Abn.pureP; (simp only [push_cast, seval] <;> (try simp (disch := omega) only [wI, wU, wC]) <;> exact rfl); (exact (Enters.of Try.func10 rfl rfl)); (exact hs); (focus (simp only [push_cast, seval] <;> first | trivial | assumption | (refine ⟨?_, ?_⟩ <;> assumption) | (simp; done))); (try dsimp only [putA, optG])); (repeat (apply Abn.next; (simp only [push_cast, seval] <;> (try simp (disch := omega) only [wI, wU, wC]) <;> exact rfl); (focus ((try simp only [push_cast, seval]) <;> exact sT))))); exact Abn.nil))
                repeat (first | apply Wp.seq | apply Wp.block | (apply Run.next; (simp only [push_cast, seval] <;> (try simp (disch := omega) only [wI, wU, wC]) <;> exact rfl); (focus ((try simp only [push_cast, seval]) <;> exact sT))) | ((first | apply Run.nil | apply Wp.skip); dsimp only [sQ, tQ, bQ]) | (apply Wp.run; (dsimp only [List.map] <;> exact rfl); exact rfl) | (apply Wp.exit; dsimp only [sQ, tQ, bQ]; simp only [reduceIte]) | (apply Run.gtrue; (simp only [push_cast, seval] <;> (try simp (disch := omega) only [wI, wU, wC]) <;> exact rfl); (simp only [push_cast, seval] <;> (try simp (disch := omega) only [wI, wU, wC]) <;> exact rfl)) | (apply Run.gfalse (.bool false); (simp only [push_cast, seval] <;> (try simp (disch := omega) only [wI, wU, wC]) <;> exact rfl); dsimp only [S.put, optG]) | (apply Wp.condT; (simp only [push_cast, seval] <;> (try simp (disch := omega) only [wI, wU, wC]) <;> exact rfl)) | (apply Wp.condF; (simp only [push_cast, seval] <;> (try simp (disch := omega) only [wI, wU, wC]) <;> exact rfl)))
                refine ⟨k + 1, ?_, by omega, by omega⟩
                (refine Le.of ?_ ?_ rfl rfl <;> (try simp only [push_cast, seval]) <;> (try (with_reducible rfl)))
              · intro hc
                repeat (first | apply Wp.seq | apply Wp.block | (apply Run.next; (simp only [push_cast, seval] <;> (try simp (disch := omega) only [wI, wU, wC]) <;> exact rfl); (focus ((try simp only [push_cast, seval]) <;> exact sT))) | ((first | apply Run.nil | apply Wp.skip); dsimp only [sQ, tQ, bQ]) | (apply Wp.run; (dsimp only [List.map] <;> exact rfl); exact rfl) | (apply Wp.exit; dsimp only [sQ, tQ, bQ]; simp only [reduceIte]))
                (apply Run.pureP; (simp only [push_cast, seval] <;> (try simp (disch := omega) only [wI, wU, wC]) <;> exact rfl); (exact (Enters.of Try.func5 rfl rfl)); (exact hcc); (focus (simp only [push_cast, seval] <;> first | trivial | assumption | (refine ⟨?_, ?_⟩ <;> assumption) | (simp; done))); (try dsimp only [putA, optG]))
                repeat (first | apply Wp.seq | apply Wp.block | (apply Run.next; (simp only [push_cast, seval] <;> (try simp (disch := omega) only [wI, wU, wC]) <;> exact rfl); (focus ((try simp only [push_cast, seval]) <;> exact sT))) | ((first | apply Run.nil | apply Wp.skip); dsimp only [sQ, tQ, bQ]) | (apply Wp.run; (dsimp only [List.map] <;> exact rfl); exact rfl) | (apply Wp.exit; dsimp only [sQ, tQ, bQ]; simp only [reduceIte]) | (apply Run.gtrue; (simp only [push_cast, seval] <;> (try simp (disch := omega) only [wI, wU, wC]) <;> exact rfl); (simp only [push_cast, seval] <;> (try simp (disch := omega) only [wI, wU, wC]) <;> exact rfl)) | (apply Run.gfalse (.bool false); (simp only [push_cast, seval] <;> (try simp (disch := omega) only [wI, wU, wC]) <;> exact rfl); dsimp only [S.put, optG]) | (apply Wp.condT; (simp only [push_cast, seval] <;> (try simp (disch := omega) only [wI, wU, wC]) <;> exact rfl)) | (apply Wp.condF; (simp only [push_cast, seval] <;> (try simp (disch := omega) only [wI, wU, wC]) <;> exact rfl)))
                (apply Wp.ret; (try dsimp only [sQ, tQ, bQ]); apply leave0; exact rfl; (simp only [push_cast, seval] <;> (try simp (disch := omega) only [wI, wU, wC]) <;> exact rfl); all_goals (try simp only [push_cast, seval]); (try rfl))
          · have hH0 : Pure Try.prog 6 [.int i, .lst 5 (l.map ptA)] (.tup [.int 0, .int (cpE i l)]) := by
              rw [if_neg hE] at hH; exact hH
            clear hA hH
            generalize cpE i l = E at hH0 hE
            have e4 : decide (E = 0) = false := decide_eq_false hE
            repeat (first | apply Wp.seq | apply Wp.block | (apply Run.next; (simp only [push_cast, seval, e2, e4] <;> (try simp (disch := omega) only [wI, wU, wC]) <;> exact rfl); (focus ((try simp only [push_cast, seval, e2, e4]) <;> exact sT))) | ((first | apply Run.nil | apply Wp.skip); dsimp only [sQ, tQ, bQ]) | (apply Wp.run; (dsimp only [List.map] <;> exact rfl); exact rfl) | (apply Wp.exit; dsimp only [sQ, tQ, bQ]; simp only [reduceIte]) | (apply Run.gtrue; (simp only [push_cast, seval, e2, e4] <;> (try simp (disch := omega) only [wI, wU, wC]) <;> exact rfl); (simp only [push_cast, seval, e2, e4] <;> (try simp (disch := omega) only [wI, wU, wC]) <;> exact rfl)) | (apply Run.gfalse (.bool false); (simp only [push_cast, seval, e2, e4] <;> (try simp (disch := omega) only [wI, wU, wC]) <;> exact rfl); dsimp only [S.put, optG]) | (apply Wp.condT; (simp only [push_cast, seval, e2, e4] <;> (try simp (disch := omega) only [wI, wU, wC]) <;> exact rfl)) | (apply Wp.condF; (simp only [push_cast, seval, e2, e4] <;> (try simp (disch := omega) only [wI, wU, wC]) <;> exact rfl)))
            (apply Run.pureP; (simp only [push_cast, seval, e2, e4] <;> (try simp (disch := omega) only [wI, wU, wC]) <;> exact rfl); (exact (Enters.of Try.func6 rfl rfl)); (exact hH0); (focus (simp only [push_cast, seval, e2, e4] <;> first | trivial | assumption | (refine ⟨?_, ?_⟩ <;> assumption) | (simp; done))); (try dsimp only [putA, optG]))
            repeat (first | apply Wp.seq | apply Wp.block | (apply Run.next; (simp only [push_cast, seval, e2, e4] <;> (try simp (disch := omega) only [wI, wU, wC]) <;> exact rfl); (focus ((try simp only [push_cast, seval, e2, e4]) <;> exact sT))) | ((first | apply Run.nil | apply Wp.skip); dsimp only [sQ, tQ, bQ]) | (apply Wp.run; (dsimp only [List.map] <;> exact rfl); exact rfl) | (apply Wp.exit; dsimp only [sQ, tQ, bQ]; simp only [reduceIte]) | (apply Run.gtrue; (simp only [push_cast, seval, e2, e4] <;> (try simp (disch := omega) only [wI, wU, wC]) <;> exact rfl); (simp only [push_cast, seval, e2, e4] <;> (try simp (disch := omega) only [wI, wU, wC]) <;> exact rfl)) | (apply Run.gfalse (.bool false); (simp only [push_cast, seval, e2, e4] <;> (try simp (disch := omega) only [wI, wU, wC]) <;> exact rfl); dsimp only [S.put, optG]) | (apply Wp.condT; (simp only [push_cast, seval, e2, e4] <;> (try simp (disch := omega) only [wI, wU, wC]) <;> exact rfl)) | (apply Wp.condF; (simp only [push_cast, seval, e2, e4] <;> (try simp (disch := omega) only [wI, wU, wC]) <;> exact rfl)))
            (apply Run.pureP; (simp only [push_cast, seval, e2, e4] <;> (try simp (disch := omega) only [wI, wU, wC]) <;> exact rfl); (exact (Enters.of Try.func5 rfl rfl)); (exact hc); (focus (simp only [push_cast, seval, e2, e4] <;> first | trivial | assumption | (refine ⟨?_, ?_⟩ <;> assumption) | (simp; done))); (try dsimp only [putA, optG]))
            repeat (first | apply Wp.seq | apply Wp.block | (apply Run.next; (simp only [push_cast, seval, e2, e4] <;> (try simp (disch := omega) only [wI, wU, wC]) <;> exact rfl); (focus ((try simp only [push_cast, seval, e2, e4]) <;> exact sT))) | ((first | apply Run.nil | apply Wp.skip); dsimp only [sQ, tQ, bQ]) | (apply Wp.run; (dsimp only [List.map] <;> exact rfl); exact rfl) | (apply Wp.exit; dsimp only [sQ, tQ, bQ]; simp only [reduceIte]) | (apply Run.gtrue; (simp only [push_cast, seval, e2, e4] <;> (try simp (disch := omega) only [wI, wU, wC]) <;> exact rfl); (simp only [push_cast, seval, e2, e4] <;> (try simp (disch := omega) only [wI, wU, wC]) <;> exact rfl)) | (apply Run.gfalse (.bool false); (simp only [push_cast, seval, e2, e4] <;> (try simp (disch := omega) only [wI, wU, wC]) <;> exact rfl); dsimp only [S.put, optG]) | (apply Wp.condT; (simp only [push_cast, seval, e2, e4] <;> (try simp (disch := omega) only [wI, wU, wC]) <;> exact rfl)) | (apply Wp.condF; (simp only [push_cast, seval, e2, e4] <;> (try simp (disch := omega) only [wI, wU, wC]) <;> exact rfl)))
            (apply Wp.ret; (try dsimp only [sQ, tQ, bQ]); apply leave0; exact rfl; (simp only [push_cast, seval, e2, e4] <;> (try simp (disch := omega) only [wI, wU, wC]) <;> exact rfl); all_goals (try simp only [push_cast, seval, e2, e4]); (try rfl))
theorem lawPortraits_pure (n : Int) (l : List Pt) : Pure Try.prog 3 [.int n, .lst 5 (l.map ptA)] (.bool true) := by
  by_cases h : 2 ≤ n ∧ n ≤ 4 ∧ l.length ≤ 14
  · obtain ⟨k, rfl⟩ : ∃ k : Nat, n = (k : Int) := ⟨n.toNat, by omega⟩
    exact lawPortraits_in k l (by omega) (by omega) h.2.2
  · exact tpGuard_pure n l h
end Go.Proofs.Try
