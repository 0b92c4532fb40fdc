/- A part of the proof of TopPortraits: contracts of functions, with plain laws that they need. -/
import Derived.Test.YtlcekedcjdamoaaVgFs
import Derived.Test.YtlcekedcjdamoaaVgFz
import Derived.Test.YtlcekedcjdamoaaVgT
import Derived.Test.YtlcekedcjdamoaaVgVz
import Derived.Test.YtlcekedcjdamoaaVgVw
import Derived.Test.YtlcekedcjdamoaaVgAp
import Derived.Test.YtlcekedcjdamoaaVgC1J
set_option linter.all false
set_option maxHeartbeats 8000000
set_option maxRecDepth 20000
namespace Go.Proofs.Try
open Go.Vg

mutual
theorem AV.ok_up {k k' : Nat} (h : k ≤ k') : ∀ (x : AV), x.ok k → x.ok k'
  | .val _, _ => trivial
  | .any, _ => trivial
  | .lst _ l, g => okL_up h l g
  | .osl _ _ _ _, g => Nat.lt_of_lt_of_le g h
  | .emp, _ => trivial
  | .ref xs _, g => okL_up h xs g
  | .optr _ _ _ _, g => Nat.lt_of_lt_of_le g h
  | .agg xs, g => okL_up h xs g
  | .tup xs, g => okL_up h xs g
  | .clo _ xs, g => okL_up h xs g
  | .bnd _ xs, g => okL_up h xs g
  | .opt _ x, g => AV.ok_up h x g
  | .yld _ _, g => Nat.lt_of_lt_of_le g h
  | .omap _ _, g => Nat.lt_of_lt_of_le g h
theorem okL_up {k k' : Nat} (h : k ≤ k') : ∀ (l : List AV), okL k l → okL k' l
  | [], _ => trivial
  | x :: l, g => ⟨AV.ok_up h x g.1, okL_up h l g.2⟩
end
theorem kind_up {k k' : Nat} (h : k ≤ k') : ∀ (e : Kind), e.ok k → e.ok k'
  | .row _ l, g => okL_up h l g
  | .dfr, _ => trivial
  | .lrec t _ _ _ _ _ _, g => okL_up h _ g
  | .mp l, g => okL_up h _ g
theorem specAtC {P : Program} {f : FuncId} {args : List AV} {m m' : Mem} {Q : AV → Mem → Prop} (h : m' = m) (hs : Go.Vg.Spec P f args m' Q) : Go.Vg.Spec P f args m Q := h ▸ hs

theorem leaveMN {P : Program} {s : S} {rs : List ResultVar} {xs : List AV} {p : Prop} {k : Nat} {C : AV → Mem → Prop} (hd : ∀ q ∈ s.d, s.m[q.1]? = some ⟨q.2, .dfr⟩) (hn : (s.d.map (·.1)).Nodup) (h : resL P { s with m := kill s.m s.d, d := [] } rs = some (xs, p)) (hp : p) (hk : (packRes xs).ok k) (hm : ∀ e ∈ (kill s.m s.d).take k, e.kind.ok k) (hx : C (packRes xs) ((kill s.m s.d).take k)) : leaves P rs k C .normal s := leaveM hd hn h hp hk hm hx
/-! the iterator of the readings: a range over the codes inside of an iterator -/
theorem readings_spec (w s : Int) (L : List AV) (hL : ∀ k, okL k L = True) : Go.Vg.Spec Try.prog 21 [lkA w s, .lst 7 L] [] fun x m' => x = .clo 42 [.optr 0 0 0 0, .optr 1 0 0 0] ∧ m' = [⟨0, .row 2 [lkA w s]⟩, ⟨0, .row 1 [.lst 7 L]⟩] := by
  (refine Spec.of_body Try.func21 rfl (by rw [Try.ntmps21]; simp) 2 (by simp) ?_; rw [Try.results21, Try.ntmps21]; simp only [entry, zipArgs, Nat.reduceAdd])
  repeat (first | apply Wp.seq | apply Wp.block | (apply Run.next; (simp only [push_cast, seval, hL, AV.ok] <;> (try simp (disch := omega) only [wI, wU, wC]) <;> exact rfl); (focus ((try simp only [push_cast, seval, hL, AV.ok]) <;> exact sT))) | ((first | apply Run.nil | apply Wp.skip); dsimp only [sQ, tQ, bQ]) | (apply Wp.run; (dsimp only [List.map] <;> exact rfl); exact rfl) | (apply Wp.exit; dsimp only [sQ, tQ, bQ]; simp only [reduceIte]))
  (apply Wp.ret; (try dsimp only [sQ, tQ, bQ]); apply leaveK; exact rfl; (simp only [push_cast, seval, hL, AV.ok] <;> (try simp (disch := omega) only [wI, wU, wC]) <;> exact rfl); (focus (first | (simp only [push_cast, seval, hL, AV.ok]; done) | trivial | (simp only [push_cast, seval, hL, AV.ok]; trivial) | (simp; done))); (focus (first | (simp only [push_cast, seval, hL, AV.ok]; done) | trivial | (simp only [push_cast, seval, hL, AV.ok]; trivial) | (simp; done))); (focus (first | (simp only [push_cast, seval, hL, AV.ok]; done) | trivial | (simp only [push_cast, seval, hL, AV.ok]; trivial) | (simp; done))); (try simp only [push_cast, seval, hL, AV.ok]))
/-- the codes that fail nothing, in order -/
def rdgN (f : List Int → Int) (s w : Nat) : List (List Int) := (codesN s w).filter fun c => decide (f c < 0)
section
variable {σ : Type} (go : σ → List Int → σ × Bool) (f : List Int → Int)
def goR (st : σ × Bool) (c : List Int) : (σ × Bool) × Bool := if f c < 0 then (((go st.1 c).1, !(go st.1 c).2), (go st.1 c).2) else (st, true)
theorem fldR (l : List (List Int)) (st : σ) : (fldC (goR go f) (st, false) l).1.1 = (fldC go st (l.filter fun c => decide (f c < 0))).1 ∧ ((fldC (goR go f) (st, false) l).1.2 = !(fldC go st (l.filter fun c => decide (f c < 0))).2) := by
  induction l generalizing st with
  | nil => exact ⟨rfl, rfl⟩
  | cons c l ih =>
    by_cases h : f c < 0
    · rw [List.filter_cons, if_pos (decide_eq_true h)]
      unfold fldC
      have e : goR go f (st, false) c = (((go st c).1, !(go st c).2), (go st c).2) := by unfold goR; rw [if_pos h]
      rw [e]
      cases hb : (go st c).2 with
      | true => simp only [if_true, Bool.not_true]; exact ih _
      | false => simp
    · rw [List.filter_cons, if_neg (by simpa using h)]
      have e : goR go f (st, false) c = ((st, false), true) := by unfold goR; rw [if_neg h]
      rw [fldC, e]
      simp only [if_true]
      exact ih _
end
theorem VwL.selfsC {m : Mem} : ∀ {xs : List AV}, okL 0 xs → VwL m xs xs
  | [], _ => .nil
  | x :: xs, h => .cons (.self h.1) (VwL.selfsC h.2)
theorem Vw.ointsC {m : Mem} {id ver : Nat} {l : List Int} (n : Nat) (hn : l.length = n) (hm : m[id]? = some ⟨ver, .row 1 (l.map AV.int)⟩) : Vw m (.osl id ver 0 n) (.ints l) := by
  subst hn
  refine .osl hm (by simp) (by omega) ?_
  have e : ((l.map AV.int).drop 0).take l.length = l.map AV.int := by simp [List.take_of_length_le]
  rw [e]
  exact VwL.selfsC (by simp only [push_cast])
section
variable {σ : Type} (K : σ → Mem) (go : σ → List Int → σ × Bool) (G : σ → Prop)
/-- memory in the rounds of the codes -/
def KR (yid w s : Nat) (t : List (Nat × AV)) (n : Nat) (ps : List Nat) (a b : Code) (st : σ × Bool) : Mem := K st.1 ++ [⟨0, .row 1 [.yld yid 0]⟩, ⟨0, .row 2 [lkA w s]⟩, ⟨0, .dfr⟩, ⟨0, .lrec t n ps a b (if st.2 = true then some .ret else none) false⟩]
theorem readI_spec {N yid wl wc w s : Nat} {L : List AV} {f : List Int → Int} (hL : ∀ k, okL k L = True) (hK : ∀ st, (K st).length = N) (hKok : ∀ st, ∀ e ∈ K st, e.kind.ok N) (hwl : ∀ st l, (K st ++ l)[wl]? = some ⟨0, .row 2 [lkA w s]⟩) (hwc : ∀ st l, (K st ++ l)[wc]? = some ⟨0, .row 1 [.lst 7 L]⟩) (hw1 : 1 ≤ w) (hw4 : w ≤ 4) (hs2 : 2 ≤ s) (hs10 : s ≤ 10)
    (hf : ∀ c ∈ codesN s w, Pure Try.prog 44 [.lst 7 L, .ints c] (.int (f c)))
    (hyN : yid < N)
    (hG : ∀ st c, G st → c ∈ codesN s w → (go st c).2 = true → G (go st c).1)
    (hY : ∀ st c T, G st → c ∈ codesN s w → T.length = 5 → T.getD 4 ⟨0, .dfr⟩ = ⟨0, .row 1 (c.map AV.int)⟩ → (∀ e ∈ T, e.kind.ok (N + 5)) → YSpec Try.prog (.yld yid 0) [.osl (N + 4) 0 0 w] (K st ++ T) fun x m' => x = .bool (go st c).2 ∧ m' = K (go st c).1 ++ T) (st0 : σ) (hst : G st0) :
    Go.Vg.Spec Try.prog 42 [.yld yid 0, .optr wl 0 0 0, .optr wc 0 0 0] (K st0) (fun _ m' => m' = K (fldC go st0 (rdgN f s w)).1) := by
  have hlenK : ∀ (st : σ) (l : Mem), (K st ++ l).length = N + l.length := fun st l => by rw [List.length_append, hK]
  have hwl0 : ∀ st, (K st)[wl]? = some ⟨0, .row 2 [lkA w s]⟩ := fun st => by have := hwl st []; rwa [List.append_nil] at this
  have htk0 : ∀ (x : σ) (T : Mem), (K x ++ T).take N = K x := fun x T => by rw [List.take_append_of_le_length (by rw [hK]; exact Nat.le_refl _), List.take_of_length_le (by rw [hK]; exact Nat.le_refl _)]
  have hwlN : wl < N := by
    have := (List.getElem?_eq_some_iff.1 (hwl0 st0)).1
    rwa [hK] at this
  have hwcN : wc < N := by
    have := (List.getElem?_eq_some_iff.1 (by have := hwc st0 []; rwa [List.append_nil] at this : (K st0)[wc]? = some ⟨0, .row 1 [.lst 7 L]⟩)).1
    rwa [hK] at this
  have hwc0 : ∀ st, (K st)[wc]? = some ⟨0, .row 1 [.lst 7 L]⟩ := fun st => by have := hwc st []; rwa [List.append_nil] at this
  (refine Spec.of_body Try.func42 rfl (by rw [Try.ntmps42]; simp) N (by rw [hK]; simp) ?_; rw [Try.results42, Try.ntmps42]; simp only [entry, zipArgs, Nat.reduceAdd])
  repeat (first | apply Wp.seq | apply Wp.block | (apply Run.next; (simp only [push_cast, seval, getF (hK st0), getF0 (hK st0), setF (hK st0), setF0 (hK st0), hwl0 st0, hwl st0, hwc0 st0, hwc st0, hK st0, hlenK, List.append_assoc, hL, AV.ok] <;> (try simp (disch := omega) only [wI, wU, wC]) <;> exact rfl); (focus ((try simp only [push_cast, seval, getF (hK st0), getF0 (hK st0), setF (hK st0), setF0 (hK st0), hwl0 st0, hwl st0, hwc0 st0, hwc st0, hK st0, hlenK, List.append_assoc, hL, AV.ok]) <;> exact sT))) | ((first | apply Run.nil | apply Wp.skip); dsimp only [sQ, tQ, bQ]) | (apply Wp.run; (dsimp only [List.map] <;> exact rfl); exact rfl) | (apply Wp.exit; dsimp only [sQ, tQ, bQ]; simp only [reduceIte]))
  (apply Run.freshE (he := (Enters.of Try.func43 rfl rfl)); (simp only [push_cast, seval, getF (hK st0), getF0 (hK st0), setF (hK st0), setF0 (hK st0), hwl0 st0, hwl st0, hwc0 st0, hwc st0, hK st0, hlenK, List.append_assoc, hL, AV.ok] <;> first | exact rfl | assumption); (simp only [push_cast, seval, getF (hK st0), getF0 (hK st0), setF (hK st0), setF0 (hK st0), hwl0 st0, hwl st0, hwc0 st0, hwc st0, hK st0, hlenK, List.append_assoc, hL, AV.ok] <;> (try simp (disch := omega) only [wI, wU, wC]) <;> exact rfl); (exact codes_spec _ _); (focus (first | (simp only [push_cast, seval, getF (hK st0), getF0 (hK st0), setF (hK st0), setF0 (hK st0), hwl0 st0, hwl st0, hwc0 st0, hwc st0, hK st0, hlenK, List.append_assoc, hL, AV.ok]; done) | trivial | (simp only [push_cast, seval, getF (hK st0), getF0 (hK st0), setF (hK st0), setF0 (hK st0), hwl0 st0, hwl st0, hwc0 st0, hwc st0, hK st0, hlenK, List.append_assoc, hL, AV.ok]; trivial) | (simp; done))); (simp only [push_cast, seval, getF (hK st0), getF0 (hK st0), setF (hK st0), setF0 (hK st0), hwl0 st0, hwl st0, hwc0 st0, hwc st0, hK st0, hlenK, List.append_assoc, hL, AV.ok] <;> (try simp (disch := omega) only [wI, wU, wC]) <;> exact rfl); (simp only [push_cast, seval, getF (hK st0), getF0 (hK st0), setF (hK st0), setF0 (hK st0), hwl0 st0, hwl st0, hwc0 st0, hwc st0, hK st0, hlenK, List.append_assoc, hL, AV.ok] <;> (try simp (disch := omega) only [wI, wU, wC]) <;> exact rfl); dsimp only [S.put, optG])
  repeat (first | apply Wp.seq | apply Wp.block | (apply Run.next; (simp only [push_cast, seval, getF (hK st0), getF0 (hK st0), setF (hK st0), setF0 (hK st0), hwl0 st0, hwl st0, hwc0 st0, hwc st0, hK st0, hlenK, List.append_assoc, hL, AV.ok] <;> (try simp (disch := omega) only [wI, wU, wC]) <;> exact rfl); (focus ((try simp only [push_cast, seval, getF (hK st0), getF0 (hK st0), setF (hK st0), setF0 (hK st0), hwl0 st0, hwl st0, hwc0 st0, hwc st0, hK st0, hlenK, List.append_assoc, hL, AV.ok]) <;> exact sT))) | ((first | apply Run.nil | apply Wp.skip); dsimp only [sQ, tQ, bQ]) | (apply Wp.run; (dsimp only [List.map] <;> exact rfl); exact rfl) | (apply Wp.exit; dsimp only [sQ, tQ, bQ]; simp only [reduceIte]))
  obtain ⟨hfr1, hfr2⟩ := fldR go f (codesN s w) st0
  refine Wp.range (by (simp only [push_cast, seval, getF (hK st0), getF0 (hK st0), setF (hK st0), setF0 (hK st0), hwl0 st0, hwl st0, hwc0 st0, hwc st0, hK st0, hlenK, List.append_assoc, hL, AV.ok] <;> (try simp (disch := omega) only [wI, wU, wC]) <;> exact rfl)) (Enters.of Try.func64 rfl rfl) (N := N + 2) (by simp [hlenK]) (C := fun i M => i = (if (fldC (goR go f) (st0, false) (codesN s w)).1.2 = true then some .ret else none) ∧ M = K (fldC (goR go f) (st0, false) (codesN s w)).1.1 ++ [⟨0, .row 1 [.yld yid 0]⟩, ⟨0, .row 2 [lkA w s]⟩]) ?_ ?_
  · refine Go.Vg.Spec.mono (specAtC ?h0 (codesI_spec (KR K yid w s ?t ?n ?ps ?a ?b) (goR go f) (fun st => st.2 = false ∧ G st.1) (N := N + 4) (yid := N + 3) (wl := N + 1) (w := w) (s := s) ?_ ?_ ?_ hw1 hw4 hs2 hs10 ?_ ?_ (st0, false) ⟨rfl, hst⟩)) ?_
    case h0 =>
      unfold KR
      simp only [List.append_assoc, List.cons_append, List.nil_append]
      rfl
    · intro st
      simp [KR, hlenK]
    · intro st e he
      unfold KR at he
      rcases List.mem_append.1 he with he | he
      · exact kind_up (by omega) _ (hKok _ e he)
      · simp only [List.mem_cons, List.not_mem_nil, or_false] at he
        rcases he with rfl | rfl | rfl | rfl <;> simp [Kind.ok, AV.ok, okL] <;> omega
    · intro st l
      unfold KR
      rw [List.append_assoc, getF (hK _)]
      rfl
    · rintro ⟨st, b⟩ c ⟨hb, hg⟩ hc h2
      simp only at hb hg
      subst hb
      unfold goR at h2 ⊢
      by_cases h : f c < 0
      · rw [if_pos h] at h2 ⊢
        simp only at h2 ⊢
        exact ⟨by rw [h2]; rfl, hG _ _ hg hc h2⟩
      · rw [if_neg h]
        exact ⟨rfl, hg⟩
    · rintro ⟨st, b⟩ c ⟨hb, hg⟩ hc
      simp only at hb hg
      subst hb
      have hfc := hf c hc
      have hYs := hY st c
      obtain ⟨hcl, _⟩ := codes_bd (by omega) hc
      unfold KR
      simp only [Bool.false_eq_true, if_false, List.append_assoc, List.cons_append, List.nil_append]
      refine YSpec.of_body (id := N + 3) (ver := 0) (ps := [7]) (by rw [getF (hK st)]; rfl) rfl (by simp) ?_
      intro Lv
      dsimp only [bindP, List.cons_append, List.nil_append]
      repeat (first | apply Wp.seq | apply Wp.block | (apply Run.next; (simp only [push_cast, seval, getF (hK st), getF0 (hK st), setF (hK st), setF0 (hK st), hwl0 st, hwl st, hwc0 st, hwc st, hK st, hlenK, List.append_assoc, hL, AV.ok] <;> (try simp (disch := omega) only [wI, wU, wC]) <;> exact rfl); (focus ((try simp only [push_cast, seval, getF (hK st), getF0 (hK st), setF (hK st), setF0 (hK st), hwl0 st, hwl st, hwc0 st, hwc st, hK st, hlenK, List.append_assoc, hL, AV.ok]) <;> exact sT))) | ((first | apply Run.nil | apply Wp.skip); dsimp only [sQ, tQ, bQ]) | (apply Wp.run; (dsimp only [List.map] <;> exact rfl); exact rfl) | (apply Wp.exit; dsimp only [sQ, tQ, bQ]; simp only [reduceIte]))
      refine ⟨rfl, rfl, ?_⟩
      rw [setF (hK st)]
      dsimp only [List.set]
      repeat (first | apply Wp.seq | apply Wp.block | (apply Run.next; (simp only [push_cast, seval, getF (hK st), getF0 (hK st), setF (hK st), setF0 (hK st), hwl0 st, hwl st, hwc0 st, hwc st, hK st, hlenK, List.append_assoc, hL, AV.ok] <;> (try simp (disch := omega) only [wI, wU, wC]) <;> exact rfl); (focus ((try simp only [push_cast, seval, getF (hK st), getF0 (hK st), setF (hK st), setF0 (hK st), hwl0 st, hwl st, hwc0 st, hwc st, hK st, hlenK, List.append_assoc, hL, AV.ok]) <;> exact sT))) | ((first | apply Run.nil | apply Wp.skip); dsimp only [sQ, tQ, bQ]) | (apply Wp.run; (dsimp only [List.map] <;> exact rfl); exact rfl) | (apply Wp.exit; dsimp only [sQ, tQ, bQ]; simp only [reduceIte]))
      have htk : ∀ (x : σ) (T : Mem), (K x ++ T).take N = K x := fun x T => by rw [List.take_append_of_le_length (by rw [hK]; exact Nat.le_refl _), List.take_of_length_le (by rw [hK]; exact Nat.le_refl _)]
      (apply Run.pureW; (simp only [push_cast, seval, getF (hK st), getF0 (hK st), setF (hK st), setF0 (hK st), hwl0 st, hwl st, hwc0 st, hwc st, hK st, hlenK, List.append_assoc, hL, AV.ok] <;> (try simp (disch := omega) only [wI, wU, wC]) <;> exact rfl); (exact (Enters.of Try.func44 rfl rfl)); (exact hfc); (exact VwL.cons (Vw.self (show (AV.lst 7 L).ok 0 from of_eq_true (hL 0))) (VwL.cons (Vw.ointsC w hcl (by rw [getF (hK st)]; rfl)) VwL.nil)); (simp only [push_cast, seval, getF (hK st), getF0 (hK st), setF (hK st), setF0 (hK st), hwl0 st, hwl st, hwc0 st, hwc st, hK st, hlenK, List.append_assoc, hL, AV.ok] <;> first | trivial | assumption | (refine ⟨?_, ?_⟩ <;> assumption) | (simp; done)); (try dsimp only [putA, optG]))
      by_cases hn : f c < 0
      · have e1 : decide (f c < 0) = true := decide_eq_true hn
        have ego : goR go f (st, false) c = (((go st c).1, !(go st c).2), (go st c).2) := by unfold goR; rw [if_pos hn]
        rw [ego]
        have hYs2 := fun T h1 h2 h3 => hYs T hg hc h1 h2 h3
        generalize go st c = R at hYs2
        repeat (first | apply Wp.seq | apply Wp.block | (apply Run.next; (simp only [push_cast, seval, getF (hK st), getF0 (hK st), setF (hK st), setF0 (hK st), hwl0 st, hwl st, hwc0 st, hwc st, hK st, hlenK, List.append_assoc, hL, AV.ok, e1] <;> (try simp (disch := omega) only [wI, wU, wC]) <;> exact rfl); (focus ((try simp only [push_cast, seval, getF (hK st), getF0 (hK st), setF (hK st), setF0 (hK st), hwl0 st, hwl st, hwc0 st, hwc st, hK st, hlenK, List.append_assoc, hL, AV.ok, e1]) <;> exact sT))) | ((first | apply Run.nil | apply Wp.skip); dsimp only [sQ, tQ, bQ]) | (apply Wp.run; (dsimp only [List.map] <;> exact rfl); exact rfl) | (apply Wp.exit; dsimp only [sQ, tQ, bQ]; simp only [reduceIte]) | (apply Run.gtrue; (simp only [push_cast, seval, getF (hK st), getF0 (hK st), setF (hK st), setF0 (hK st), hwl0 st, hwl st, hwc0 st, hwc st, hK st, hlenK, List.append_assoc, hL, AV.ok, e1] <;> (try simp (disch := omega) only [wI, wU, wC]) <;> exact rfl); (simp only [push_cast, seval, getF (hK st), getF0 (hK st), setF (hK st), setF0 (hK st), hwl0 st, hwl st, hwc0 st, hwc st, hK st, hlenK, List.append_assoc, hL, AV.ok, e1] <;> (try simp (disch := omega) only [wI, wU, wC]) <;> exact rfl)) | (apply Run.gfalse (.bool false); (simp only [push_cast, seval, getF (hK st), getF0 (hK st), setF (hK st), setF0 (hK st), hwl0 st, hwl st, hwc0 st, hwc st, hK st, hlenK, List.append_assoc, hL, AV.ok, e1] <;> (try simp (disch := omega) only [wI, wU, wC]) <;> exact rfl); dsimp only [S.put, optG]) | (apply Wp.condT; (simp only [push_cast, seval, getF (hK st), getF0 (hK st), setF (hK st), setF0 (hK st), hwl0 st, hwl st, hwc0 st, hwc st, hK st, hlenK, List.append_assoc, hL, AV.ok, e1] <;> (try simp (disch := omega) only [wI, wU, wC]) <;> exact rfl)) | (apply Wp.condF; (simp only [push_cast, seval, getF (hK st), getF0 (hK st), setF (hK st), setF0 (hK st), hwl0 st, hwl st, hwc0 st, hwc st, hK st, hlenK, List.append_assoc, hL, AV.ok, e1] <;> (try simp (disch := omega) only [wI, wU, wC]) <;> exact rfl)))
        have hY5 := fun a1 a2 a3 a4 h => hYs2 [a1, a2, a3, a4, ⟨0, .row 1 (c.map AV.int)⟩] rfl rfl h
        apply Run.ycall (hc := hY5 _ _ _ _ ?hok)
        focus exact rfl
        case hok =>
          intro e he
          simp only [List.mem_cons, List.not_mem_nil, or_false] at he
          rcases he with rfl | rfl | rfl | rfl | rfl <;> simp [Kind.ok, AV.ok, okL, okL_int, hlenK] <;> omega
        focus (simp only [push_cast, seval, getF (hK st), getF0 (hK st), setF (hK st), setF0 (hK st), hwl0 st, hwl st, hwc0 st, hwc st, hK st, hlenK, List.append_assoc, hL, AV.ok, e1] <;> (try simp (disch := omega) only [wI, wU, wC]) <;> exact rfl)
        focus (simp only [push_cast, seval, getF (hK st), getF0 (hK st), setF (hK st), setF0 (hK st), hwl0 st, hwl st, hwc0 st, hwc st, hK st, hlenK, List.append_assoc, hL, AV.ok, e1] <;> (try simp (disch := omega) only [wI, wU, wC]) <;> exact rfl)
        rintro x m' ⟨rfl, rfl⟩
        obtain ⟨st1, b⟩ := R
        cases b with
        | false =>
          dsimp only [S.put, optG]
          repeat (first | apply Wp.seq | apply Wp.block | (apply Run.next; (simp only [push_cast, seval, getF (hK st1), getF0 (hK st1), setF (hK st1), setF0 (hK st1), hwl0 st1, hwl st1, hwc0 st1, hwc st1, hK st1, hlenK, List.append_assoc, hL, AV.ok] <;> (try simp (disch := omega) only [wI, wU, wC]) <;> exact rfl); (focus ((try simp only [push_cast, seval, getF (hK st1), getF0 (hK st1), setF (hK st1), setF0 (hK st1), hwl0 st1, hwl st1, hwc0 st1, hwc st1, hK st1, hlenK, List.append_assoc, hL, AV.ok]) <;> exact sT))) | ((first | apply Run.nil | apply Wp.skip); dsimp only [sQ, tQ, bQ]) | (apply Wp.run; (dsimp only [List.map] <;> exact rfl); exact rfl) | (apply Wp.exit; dsimp only [sQ, tQ, bQ]; simp only [reduceIte]) | (apply Run.gtrue; (simp only [push_cast, seval, getF (hK st1), getF0 (hK st1), setF (hK st1), setF0 (hK st1), hwl0 st1, hwl st1, hwc0 st1, hwc st1, hK st1, hlenK, List.append_assoc, hL, AV.ok] <;> (try simp (disch := omega) only [wI, wU, wC]) <;> exact rfl); (simp only [push_cast, seval, getF (hK st1), getF0 (hK st1), setF (hK st1), setF0 (hK st1), hwl0 st1, hwl st1, hwc0 st1, hwc st1, hK st1, hlenK, List.append_assoc, hL, AV.ok] <;> (try simp (disch := omega) only [wI, wU, wC]) <;> exact rfl)) | (apply Run.gfalse (.bool false); (simp only [push_cast, seval, getF (hK st1), getF0 (hK st1), setF (hK st1), setF0 (hK st1), hwl0 st1, hwl st1, hwc0 st1, hwc st1, hK st1, hlenK, List.append_assoc, hL, AV.ok] <;> (try simp (disch := omega) only [wI, wU, wC]) <;> exact rfl); dsimp only [S.put, optG]) | (apply Wp.condT; (simp only [push_cast, seval, getF (hK st1), getF0 (hK st1), setF (hK st1), setF0 (hK st1), hwl0 st1, hwl st1, hwc0 st1, hwc st1, hK st1, hlenK, List.append_assoc, hL, AV.ok] <;> (try simp (disch := omega) only [wI, wU, wC]) <;> exact rfl)) | (apply Wp.condF; (simp only [push_cast, seval, getF (hK st1), getF0 (hK st1), setF (hK st1), setF0 (hK st1), hwl0 st1, hwl st1, hwc0 st1, hwc st1, hK st1, hlenK, List.append_assoc, hL, AV.ok] <;> (try simp (disch := omega) only [wI, wU, wC]) <;> exact rfl)))
          apply Wp.ret
          dsimp only [bQ, roundQ]
          refine ⟨by rw [getF (hK _)]; rfl, ?_, ?_⟩
          · intro e he
            have he := List.mem_of_mem_take he
            rcases List.mem_append.1 he with he | he
            · exact kind_up (by simp [hlenK]) _ (hKok _ e he)
            · simp only [List.mem_cons, List.not_mem_nil, or_false] at he
              rcases he with rfl | rfl | rfl | rfl | rfl <;> simp [Kind.ok, AV.ok, okL, okL_int, hlenK] <;> omega
          · rw [setF (hK _), List.take_of_length_le (by simp [hlenK])]
            exact ⟨rfl, rfl⟩
        | true =>
          dsimp only [S.put, optG]
          repeat (first | apply Wp.seq | apply Wp.block | (apply Run.next; (simp only [push_cast, seval, getF (hK st1), getF0 (hK st1), setF (hK st1), setF0 (hK st1), hwl0 st1, hwl st1, hwc0 st1, hwc st1, hK st1, hlenK, List.append_assoc, hL, AV.ok] <;> (try simp (disch := omega) only [wI, wU, wC]) <;> exact rfl); (focus ((try simp only [push_cast, seval, getF (hK st1), getF0 (hK st1), setF (hK st1), setF0 (hK st1), hwl0 st1, hwl st1, hwc0 st1, hwc st1, hK st1, hlenK, List.append_assoc, hL, AV.ok]) <;> exact sT))) | ((first | apply Run.nil | apply Wp.skip); dsimp only [sQ, tQ, bQ]) | (apply Wp.run; (dsimp only [List.map] <;> exact rfl); exact rfl) | (apply Wp.exit; dsimp only [sQ, tQ, bQ]; simp only [reduceIte]) | (apply Run.gtrue; (simp only [push_cast, seval, getF (hK st1), getF0 (hK st1), setF (hK st1), setF0 (hK st1), hwl0 st1, hwl st1, hwc0 st1, hwc st1, hK st1, hlenK, List.append_assoc, hL, AV.ok] <;> (try simp (disch := omega) only [wI, wU, wC]) <;> exact rfl); (simp only [push_cast, seval, getF (hK st1), getF0 (hK st1), setF (hK st1), setF0 (hK st1), hwl0 st1, hwl st1, hwc0 st1, hwc st1, hK st1, hlenK, List.append_assoc, hL, AV.ok] <;> (try simp (disch := omega) only [wI, wU, wC]) <;> exact rfl)) | (apply Run.gfalse (.bool false); (simp only [push_cast, seval, getF (hK st1), getF0 (hK st1), setF (hK st1), setF0 (hK st1), hwl0 st1, hwl st1, hwc0 st1, hwc st1, hK st1, hlenK, List.append_assoc, hL, AV.ok] <;> (try simp (disch := omega) only [wI, wU, wC]) <;> exact rfl); dsimp only [S.put, optG]) | (apply Wp.condT; (simp only [push_cast, seval, getF (hK st1), getF0 (hK st1), setF (hK st1), setF0 (hK st1), hwl0 st1, hwl st1, hwc0 st1, hwc st1, hK st1, hlenK, List.append_assoc, hL, AV.ok] <;> (try simp (disch := omega) only [wI, wU, wC]) <;> exact rfl)) | (apply Wp.condF; (simp only [push_cast, seval, getF (hK st1), getF0 (hK st1), setF (hK st1), setF0 (hK st1), hwl0 st1, hwl st1, hwc0 st1, hwc st1, hK st1, hlenK, List.append_assoc, hL, AV.ok] <;> (try simp (disch := omega) only [wI, wU, wC]) <;> exact rfl)))
          dsimp only [roundQ]
          refine ⟨by rw [getF (hK _)]; rfl, ?_, ?_⟩
          · intro e he
            have he := List.mem_of_mem_take he
            rcases List.mem_append.1 he with he | he
            · exact kind_up (by simp [hlenK]) _ (hKok _ e he)
            · simp only [List.mem_cons, List.not_mem_nil, or_false] at he
              rcases he with rfl | rfl | rfl | rfl | rfl <;> simp [Kind.ok, AV.ok, okL, okL_int, hlenK] <;> omega
          · rw [setF (hK _), List.take_of_length_le (by simp [hlenK])]
            exact ⟨rfl, rfl⟩
      · have e1 : decide (f c < 0) = false := decide_eq_false hn
        have ego : goR go f (st, false) c = ((st, false), true) := by unfold goR; rw [if_neg hn]
        rw [ego]
        repeat (first | apply Wp.seq | apply Wp.block | (apply Run.next; (simp only [push_cast, seval, getF (hK st), getF0 (hK st), setF (hK st), setF0 (hK st), hwl0 st, hwl st, hwc0 st, hwc st, hK st, hlenK, List.append_assoc, hL, AV.ok, e1] <;> (try simp (disch := omega) only [wI, wU, wC]) <;> exact rfl); (focus ((try simp only [push_cast, seval, getF (hK st), getF0 (hK st), setF (hK st), setF0 (hK st), hwl0 st, hwl st, hwc0 st, hwc st, hK st, hlenK, List.append_assoc, hL, AV.ok, e1]) <;> exact sT))) | ((first | apply Run.nil | apply Wp.skip); dsimp only [sQ, tQ, bQ]) | (apply Wp.run; (dsimp only [List.map] <;> exact rfl); exact rfl) | (apply Wp.exit; dsimp only [sQ, tQ, bQ]; simp only [reduceIte]) | (apply Run.gtrue; (simp only [push_cast, seval, getF (hK st), getF0 (hK st), setF (hK st), setF0 (hK st), hwl0 st, hwl st, hwc0 st, hwc st, hK st, hlenK, List.append_assoc, hL, AV.ok, e1] <;> (try simp (disch := omega) only [wI, wU, wC]) <;> exact rfl); (simp only [push_cast, seval, getF (hK st), getF0 (hK st), setF (hK st), setF0 (hK st), hwl0 st, hwl st, hwc0 st, hwc st, hK st, hlenK, List.append_assoc, hL, AV.ok, e1] <;> (try simp (disch := omega) only [wI, wU, wC]) <;> exact rfl)) | (apply Run.gfalse (.bool false); (simp only [push_cast, seval, getF (hK st), getF0 (hK st), setF (hK st), setF0 (hK st), hwl0 st, hwl st, hwc0 st, hwc st, hK st, hlenK, List.append_assoc, hL, AV.ok, e1] <;> (try simp (disch := omega) only [wI, wU, wC]) <;> exact rfl); dsimp only [S.put, optG]) | (apply Wp.condT; (simp only [push_cast, seval, getF (hK st), getF0 (hK st), setF (hK st), setF0 (hK st), hwl0 st, hwl st, hwc0 st, hwc st, hK st, hlenK, List.append_assoc, hL, AV.ok, e1] <;> (try simp (disch := omega) only [wI, wU, wC]) <;> exact rfl)) | (apply Wp.condF; (simp only [push_cast, seval, getF (hK st), getF0 (hK st), setF (hK st), setF0 (hK st), hwl0 st, hwl st, hwc0 st, hwc st, hK st, hlenK, List.append_assoc, hL, AV.ok, e1] <;> (try simp (disch := omega) only [wI, wU, wC]) <;> exact rfl)))
        dsimp only [roundQ]
        refine ⟨by rw [getF (hK _)]; rfl, ?_, ?_⟩
        · intro e he
          have he := List.mem_of_mem_take he
          rcases List.mem_append.1 he with he | he
          · exact kind_up (by simp [hlenK]) _ (hKok _ e he)
          · simp only [List.mem_cons, List.not_mem_nil, or_false] at he
            rcases he with rfl | rfl | rfl | rfl | rfl <;> simp [Kind.ok, AV.ok, okL, okL_int, hlenK] <;> omega
        · rw [setF (hK _), List.take_of_length_le (by simp [hlenK])]
          exact ⟨rfl, rfl⟩
    · rintro x m' rfl
      refine ⟨_, _, ⟨rfl, rfl⟩, by simp [hlenK], ?_⟩
      unfold KR
      simp only [List.append_assoc, List.cons_append, List.nil_append]
  · rintro M j ⟨rfl, rfl⟩
    rw [hfr1, hfr2]
    cases (fldC go st0 (List.filter (fun c => decide (f c < 0)) (codesN s w))).2 with
    | true =>
      rw [Bool.not_true, if_neg (by simp)]
      dsimp only [bQ]
      refine leaveMN (by intro q hq; simp only [List.mem_cons, List.not_mem_nil, or_false] at hq; subst hq; simp only [List.append_assoc]; rw [getF (hK _)]; rfl) (by simp) rfl trivial trivial ?_ ?_
      all_goals
        simp only [kill, List.foldl_cons, List.foldl_nil, List.append_assoc, List.cons_append, List.nil_append, setF (hK _), List.set_cons_succ, List.set_cons_zero, htk0]
        first | exact hKok _ | rfl
    | false =>
      rw [Bool.not_false, if_pos rfl]
      dsimp only
      apply Wp.ret
      dsimp only [bQ]
      refine leaveM (by intro q hq; simp only [List.mem_cons, List.not_mem_nil, or_false] at hq; subst hq; simp only [List.append_assoc]; rw [getF (hK _)]; rfl) (by simp) rfl trivial trivial ?_ ?_
      all_goals
        simp only [kill, List.foldl_cons, List.foldl_nil, List.append_assoc, List.cons_append, List.nil_append, setF (hK _), List.set_cons_succ, List.set_cons_zero, htk0]
        first | exact hKok _ | rfl
end
end Go.Proofs.Try
set_option maxHeartbeats 8000000
set_option maxRecDepth 20000
namespace Go.Proofs.Try
open Go.Vg

/-! how many readings there are -/
def goCn (s : Int) (h : List Int) : Int × Bool := (IntKind.i64.wrap (s + 1), true)
theorem fldCn : ∀ (L : List (List Int)) (s : Int), 0 ≤ s → s + L.length ≤ 1000000 → fldC goCn s L = (s + L.length, true)
  | [], s, _, _ => by simp [fldC]
  | x :: L, s, h1, h2 => by
    have e : (x :: L).length = L.length + 1 := rfl
    rw [e] at h2 ⊢
    have hw : IntKind.i64.wrap (s + 1) = s + 1 := wI (by omega) (by omega)
    unfold fldC goCn
    rw [if_pos rfl]
    simp only [hw]
    rw [show (fun s h => (IntKind.i64.wrap (s + 1), true) : Int → List Int → Int × Bool) = goCn from rfl, fldCn L (s + 1) (by omega) (by omega)]
    simp only [Prod.mk.injEq, and_true]
    omega
theorem rdg_len (f : List Int → Int) {s w : Nat} (hs2 : 1 ≤ s) (hs : s ≤ 10) (hw : w ≤ 4) : (rdgN f s w).length ≤ 10000 := by
  unfold rdgN
  refine Nat.le_trans (List.length_filter_le _ _) ?_
  unfold codesN
  rw [List.length_map, List.length_range]
  calc s ^ w ≤ 10 ^ w := Nat.pow_le_pow_left hs _
    _ ≤ 10 ^ 4 := Nat.pow_le_pow_right (by omega) hw
def KcC (w s : Nat) (L : List AV) (R : Kind) (n : Int) : Mem := [⟨0, .row 2 [lkA w s]⟩, ⟨0, .row 1 [.int n]⟩, ⟨0, .row 2 [lkA w s]⟩, ⟨0, .row 1 [.lst 7 L]⟩, ⟨0, .dfr⟩, ⟨0, R⟩]
theorem ccount_pure {w s : Nat} {L : List AV} {f : List Int → Int} (hL : ∀ k, okL k L = True) (hsh : ∀ k, shiftL k L = L) (hw1 : 1 ≤ w) (hw4 : w ≤ 4) (hs2 : 2 ≤ s) (hs10 : s ≤ 10)
    (hf : ∀ c ∈ codesN s w, Pure Try.prog 44 [.lst 7 L, .ints c] (.int (f c))) : Pure Try.prog 19 [lkA w s, .lst 7 L] (.int (rdgN f s w).length) := by
  have hln := rdg_len f (s := s) (w := w) (by omega) hs10 hw4
  have hfc := fldCn (rdgN f s w) 0 (by omega) (by omega)
  (refine Spec.of_body Try.func19 rfl (by rw [Try.ntmps19]; simp) 0 (by simp) ?_; rw [Try.results19, Try.ntmps19]; simp only [entry, zipArgs, Nat.reduceAdd])
  repeat (first | apply Wp.seq | apply Wp.block | (apply Run.next; (simp only [push_cast, seval, hL, hsh, AV.ok] <;> (try simp (disch := omega) only [wI, wU, wC]) <;> exact rfl); (focus ((try simp only [push_cast, seval, hL, hsh, AV.ok]) <;> exact sT))) | ((first | apply Run.nil | apply Wp.skip); dsimp only [sQ, tQ, bQ]) | (apply Wp.run; (dsimp only [List.map] <;> exact rfl); exact rfl) | (apply Wp.exit; dsimp only [sQ, tQ, bQ]; simp only [reduceIte]))
  (apply Run.freshE (he := (Enters.of Try.func21 rfl rfl)); (simp only [push_cast, seval, hL, hsh, AV.ok] <;> first | exact rfl | assumption); (simp only [push_cast, seval, hL, hsh, AV.ok] <;> (try simp (disch := omega) only [wI, wU, wC]) <;> exact rfl); (exact readings_spec _ _ L hL); (focus (first | (simp only [push_cast, seval, hL, hsh, AV.ok]; done) | trivial | (simp only [push_cast, seval, hL, hsh, AV.ok]; trivial) | (simp; done))); (simp only [push_cast, seval, hL, hsh, AV.ok] <;> (try simp (disch := omega) only [wI, wU, wC]) <;> exact rfl); (simp only [push_cast, seval, hL, hsh, AV.ok] <;> (try simp (disch := omega) only [wI, wU, wC]) <;> exact rfl); dsimp only [S.put, optG])
  repeat (first | apply Wp.seq | apply Wp.block | (apply Run.next; (simp only [push_cast, seval, hL, hsh, AV.ok] <;> (try simp (disch := omega) only [wI, wU, wC]) <;> exact rfl); (focus ((try simp only [push_cast, seval, hL, hsh, AV.ok]) <;> exact sT))) | ((first | apply Run.nil | apply Wp.skip); dsimp only [sQ, tQ, bQ]) | (apply Wp.run; (dsimp only [List.map] <;> exact rfl); exact rfl) | (apply Wp.exit; dsimp only [sQ, tQ, bQ]; simp only [reduceIte]))
  try simp only [hsh]
  generalize hHG : rdgN f s w = HG at hln hfc
  refine Wp.range (by (simp only [push_cast, seval, hL, hsh, AV.ok] <;> (try simp (disch := omega) only [wI, wU, wC]) <;> exact rfl)) (Enters.of Try.func42 rfl rfl) (N := 4) rfl (C := fun j M => j = none ∧ M = [⟨0, .row 2 [lkA w s]⟩, ⟨0, .row 1 [.int HG.length]⟩, ⟨0, .row 2 [lkA w s]⟩, ⟨0, .row 1 [.lst 7 L]⟩]) ?_ ?_
  · refine Go.Vg.Spec.mono (readI_spec (KcC w s L _) goCn (fun _ => True) (N := 6) (yid := 5) (wl := 2) (wc := 3) hL (fun s => rfl) ?_ (fun s l => rfl) (fun s l => rfl) hw1 hw4 hs2 hs10 hf (by omega) (fun _ _ _ _ _ => trivial) ?_ 0 trivial) ?_
    · intro s e he
      unfold KcC at he
      simp only [List.mem_cons, List.not_mem_nil, or_false] at he
      rcases he with rfl | rfl | rfl | rfl | rfl | rfl <;> simp [Kind.ok, AV.ok, okL, hL]
    · intro s c T _ hcm hT h4 hTok
      match T, hT, h4, hTok with
      | [a1, a2, a3, a4, a5], _, h4, hTok =>
        have g1 := hTok a1 (by simp)
        have g2 := hTok a2 (by simp)
        have g3 := hTok a3 (by simp)
        have g4 := hTok a4 (by simp)
        have g5 := hTok a5 (by simp)
        refine YSpec.of_body (id := 5) (ver := 0) rfl rfl (by simp) ?_
        intro Lv
        unfold KcC goCn
        dsimp only [bindP, List.cons_append, List.nil_append]
        repeat (first | apply Wp.seq | apply Wp.block | (apply Run.next; (simp only [push_cast, seval, hL, hsh, AV.ok] <;> (try simp (disch := omega) only [wI, wU, wC]) <;> exact rfl); (focus ((try simp only [push_cast, seval, hL, hsh, AV.ok]) <;> exact sT))) | ((first | apply Run.nil | apply Wp.skip); dsimp only [sQ, tQ, bQ]) | (apply Wp.run; (dsimp only [List.map] <;> exact rfl); exact rfl) | (apply Wp.exit; dsimp only [sQ, tQ, bQ]; simp only [reduceIte]))
        refine ⟨rfl, rfl, ?_⟩
        dsimp only [List.set]
        repeat (first | apply Wp.seq | apply Wp.block | (apply Run.next; (simp only [push_cast, seval, hL, hsh, AV.ok] <;> (try simp (disch := omega) only [wI, wU, wC]) <;> exact rfl); (focus ((try simp only [push_cast, seval, hL, hsh, AV.ok]) <;> exact sT))) | ((first | apply Run.nil | apply Wp.skip); dsimp only [sQ, tQ, bQ]) | (apply Wp.run; (dsimp only [List.map] <;> exact rfl); exact rfl) | (apply Wp.exit; dsimp only [sQ, tQ, bQ]; simp only [reduceIte]))
        refine ⟨rfl, ?_, rfl, ?_⟩
        · intro e he
          have he := List.mem_of_mem_take he
          simp only [List.mem_cons, List.not_mem_nil, or_false] at he
          rcases he with rfl | rfl | rfl | rfl | rfl | rfl | rfl | rfl | rfl | rfl | rfl <;> first | assumption | simp [Kind.ok, AV.ok, okL, hL]
        · rfl
    · rintro x m' rfl
      rw [hHG, hfc, Int.zero_add]
      exact ⟨_, none, ⟨rfl, rfl⟩, rfl, rfl⟩
  · rintro M j ⟨rfl, rfl⟩
    dsimp only [bQ, sQ, List.cons_append, List.nil_append]
    repeat (first | apply Wp.seq | apply Wp.block | (apply Run.next; (simp only [push_cast, seval, hL, hsh, AV.ok] <;> (try simp (disch := omega) only [wI, wU, wC]) <;> exact rfl); (focus ((try simp only [push_cast, seval, hL, hsh, AV.ok]) <;> exact sT))) | ((first | apply Run.nil | apply Wp.skip); dsimp only [sQ, tQ, bQ]) | (apply Wp.run; (dsimp only [List.map] <;> exact rfl); exact rfl) | (apply Wp.exit; dsimp only [sQ, tQ, bQ]; simp only [reduceIte]))
    (apply Wp.ret; (try dsimp only [sQ, tQ, bQ]); apply leaveM; (focus (first | (simp only [push_cast, seval, hL, hsh, AV.ok]; done) | trivial | (simp only [push_cast, seval, hL, hsh, AV.ok]; trivial) | (simp; done))); (focus (first | (simp only [push_cast, seval, hL, hsh, AV.ok]; done) | trivial | (simp only [push_cast, seval, hL, hsh, AV.ok]; trivial) | (simp; done))); (simp only [push_cast, seval, hL, hsh, AV.ok] <;> (try simp (disch := omega) only [wI, wU, wC]) <;> exact rfl); (focus (first | (simp only [push_cast, seval, hL, hsh, AV.ok]; done) | trivial | (simp only [push_cast, seval, hL, hsh, AV.ok]; trivial) | (simp; done))); (focus (first | (simp only [push_cast, seval, hL, hsh, AV.ok]; done) | trivial | (simp only [push_cast, seval, hL, hsh, AV.ok]; trivial) | (simp; done))); (focus (first | (simp only [push_cast, seval, hL, hsh, AV.ok]; done) | trivial | (simp only [push_cast, seval, hL, hsh, AV.ok]; trivial) | (simp; done))); (try simp only [push_cast, seval, hL, hsh, AV.ok]))
theorem Count_pure {w s : Nat} {L : List AV} {f : List Int → Int} (hL : ∀ k, okL k L = True) (hsh : ∀ k, shiftL k L = L) (hw1 : 1 ≤ w) (hw4 : w ≤ 4) (hs2 : 2 ≤ s) (hs10 : s ≤ 10)
    (hck : Pure Try.prog 18 [lkA w s, .lst 7 L] (.int 0))
    (hf : ∀ c ∈ codesN s w, Pure Try.prog 44 [.lst 7 L, .ints c] (.int (f c))) : Pure Try.prog 8 [lkA w s, .lst 7 L] (.tup [.int (rdgN f s w).length, .int 0]) := by
  have hc := ccount_pure hL hsh hw1 hw4 hs2 hs10 hf
  (refine Spec.of_body Try.func8 rfl (by rw [Try.ntmps8]; simp) 0 (by simp) ?_; rw [Try.results8, Try.ntmps8]; simp only [entry, zipArgs, Nat.reduceAdd])
  repeat (first | apply Wp.seq | apply Wp.block | (apply Run.next; (simp only [push_cast, seval, hL, hsh, AV.ok] <;> (try simp (disch := omega) only [wI, wU, wC]) <;> exact rfl); (focus ((try simp only [push_cast, seval, hL, hsh, AV.ok]) <;> exact sT))) | ((first | apply Run.nil | apply Wp.skip); dsimp only [sQ, tQ, bQ]) | (apply Wp.run; (dsimp only [List.map] <;> exact rfl); exact rfl) | (apply Wp.exit; dsimp only [sQ, tQ, bQ]; simp only [reduceIte]))
  (apply Run.pureP; (simp only [push_cast, seval, hL, hsh, AV.ok] <;> (try simp (disch := omega) only [wI, wU, wC]) <;> exact rfl); (exact (Enters.of Try.func18 rfl rfl)); (exact hck); (focus (simp only [push_cast, seval, hL, hsh, AV.ok] <;> first | trivial | assumption | (refine ⟨?_, ?_⟩ <;> assumption) | (simp; done))); (try dsimp only [putA, optG]))
  repeat (first | apply Wp.seq | apply Wp.block | (apply Run.next; (simp only [push_cast, seval, hL, hsh, AV.ok] <;> (try simp (disch := omega) only [wI, wU, wC]) <;> exact rfl); (focus ((try simp only [push_cast, seval, hL, hsh, AV.ok]) <;> exact sT))) | ((first | apply Run.nil | apply Wp.skip); dsimp only [sQ, tQ, bQ]) | (apply Wp.run; (dsimp only [List.map] <;> exact rfl); exact rfl) | (apply Wp.exit; dsimp only [sQ, tQ, bQ]; simp only [reduceIte]) | (apply Run.gtrue; (simp only [push_cast, seval, hL, hsh, AV.ok] <;> (try simp (disch := omega) only [wI, wU, wC]) <;> exact rfl); (simp only [push_cast, seval, hL, hsh, AV.ok] <;> (try simp (disch := omega) only [wI, wU, wC]) <;> exact rfl)) | (apply Run.gfalse (.bool false); (simp only [push_cast, seval, hL, hsh, AV.ok] <;> (try simp (disch := omega) only [wI, wU, wC]) <;> exact rfl); dsimp only [S.put, optG]) | (apply Wp.condT; (simp only [push_cast, seval, hL, hsh, AV.ok] <;> (try simp (disch := omega) only [wI, wU, wC]) <;> exact rfl)) | (apply Wp.condF; (simp only [push_cast, seval, hL, hsh, AV.ok] <;> (try simp (disch := omega) only [wI, wU, wC]) <;> exact rfl)))
  (apply Run.pureP; (simp only [push_cast, seval, hL, hsh, AV.ok] <;> (try simp (disch := omega) only [wI, wU, wC]) <;> exact rfl); (exact (Enters.of Try.func19 rfl rfl)); (exact hc); (focus (simp only [push_cast, seval, hL, hsh, AV.ok] <;> first | trivial | assumption | (refine ⟨?_, ?_⟩ <;> assumption) | (simp; done))); (try dsimp only [putA, optG]))
  repeat (first | apply Wp.seq | apply Wp.block | (apply Run.next; (simp only [push_cast, seval, hL, hsh, AV.ok] <;> (try simp (disch := omega) only [wI, wU, wC]) <;> exact rfl); (focus ((try simp only [push_cast, seval, hL, hsh, AV.ok]) <;> exact sT))) | ((first | apply Run.nil | apply Wp.skip); dsimp only [sQ, tQ, bQ]) | (apply Wp.run; (dsimp only [List.map] <;> exact rfl); exact rfl) | (apply Wp.exit; dsimp only [sQ, tQ, bQ]; simp only [reduceIte]))
  (apply Wp.ret; (try dsimp only [sQ, tQ, bQ]); apply leave0; exact rfl; (simp only [push_cast, seval, hL, hsh, AV.ok] <;> (try simp (disch := omega) only [wI, wU, wC]) <;> exact rfl); all_goals (try simp only [push_cast, seval, hL, hsh, AV.ok]); (try rfl))
end Go.Proofs.Try
namespace Go.Proofs.Try
open Go.Vg

theorem within_pure (n lo hi : Int) : Pure Try.prog 16 [.int n, .int lo, .int hi] (.bool (decide (lo ≤ n) && decide (n ≤ hi))) := by
  (refine Spec.of_body Try.func16 rfl (by rw [Try.ntmps16]; simp) 0 (by simp) ?_; rw [Try.results16, Try.ntmps16]; simp only [entry, zipArgs, Nat.reduceAdd])
  repeat (first | apply Wp.seq | apply Wp.block | (apply Run.next; (simp only [push_cast, seval] <;> (try simp (disch := omega) only [wI, wU, wC]) <;> exact rfl); (focus ((try simp only [push_cast, seval]) <;> exact sT))) | ((first | apply Run.nil | apply Wp.skip); dsimp only [sQ, tQ, bQ]) | (apply Wp.run; (dsimp only [List.map] <;> exact rfl); exact rfl) | (apply Wp.exit; dsimp only [sQ, tQ, bQ]; simp only [reduceIte]))
  (apply Wp.ret; (try dsimp only [sQ, tQ, bQ]); apply leave0; exact rfl; (simp only [push_cast, seval] <;> (try simp (disch := omega) only [wI, wU, wC]) <;> exact rfl); all_goals (try simp only [push_cast, seval]); (try rfl))

end Go.Proofs.Try
namespace Go.Proofs.Try
open Go.Vg

end Go.Proofs.Try
namespace Go.Proofs.Try
open Go.Vg

theorem clone_spec (l : List Int) (hl : l.length ≤ 100000000) : Go.Vg.Spec Try.prog 17 [.ints l] [] (fun x m' => x = .osl 0 0 0 l.length ∧ m' = [⟨0, .row 1 (l.map AV.int)⟩]) := by
  (refine Spec.of_body Try.func17 rfl (by rw [Try.ntmps17]; simp) 1 (by simp) ?_; rw [Try.results17, Try.ntmps17]; simp only [entry, zipArgs, Nat.reduceAdd])
  repeat (first | apply Wp.seq | apply Wp.block | (apply Run.next; (simp only [push_cast, seval] <;> (try simp (disch := omega) only [wI, wU, wC]) <;> exact rfl); (focus ((try simp only [push_cast, seval]) <;> exact sT))) | ((first | apply Run.nil | apply Wp.skip); dsimp only [sQ, tQ, bQ]) | (apply Wp.run; (dsimp only [List.map] <;> exact rfl); exact rfl) | (apply Wp.exit; dsimp only [sQ, tQ, bQ]; simp only [reduceIte]))
  apply Run.isnil; (simp only [push_cast, seval] <;> (try simp (disch := omega) only [wI, wU, wC]) <;> exact rfl); (simp only [push_cast, seval] <;> (try simp (disch := omega) only [wI, wU, wC]) <;> exact rfl)
  intro b hb
  dsimp only [S.put, optG]
  repeat (first | apply Wp.seq | apply Wp.block | (apply Run.next; (simp only [push_cast, seval] <;> (try simp (disch := omega) only [wI, wU, wC]) <;> exact rfl); (focus ((try simp only [push_cast, seval]) <;> exact sT))) | ((first | apply Run.nil | apply Wp.skip); dsimp only [sQ, tQ, bQ]) | (apply Wp.run; (dsimp only [List.map] <;> exact rfl); exact rfl) | (apply Wp.exit; dsimp only [sQ, tQ, bQ]; simp only [reduceIte]))
  (apply Wp.cond; (simp only [push_cast, seval] <;> (try simp (disch := omega) only [wI, wU, wC]) <;> exact rfl))
  · intro hc
    subst hc
    simp only [push_cast, seval] at hb
    repeat (first | apply Wp.seq | apply Wp.block | (apply Run.next; (simp only [push_cast, seval] <;> (try simp (disch := omega) only [wI, wU, wC]) <;> exact rfl); (focus ((try simp only [push_cast, seval]) <;> exact sT))) | ((first | apply Run.nil | apply Wp.skip); dsimp only [sQ, tQ, bQ]) | (apply Wp.run; (dsimp only [List.map] <;> exact rfl); exact rfl) | (apply Wp.exit; dsimp only [sQ, tQ, bQ]; simp only [reduceIte]))
    apply Wp.adopt 2 1; (simp only [push_cast, seval] <;> (try simp (disch := omega) only [wI, wU, wC]) <;> exact rfl)
    (apply Wp.ret; (try dsimp only [sQ, tQ, bQ]); apply leaveK; exact rfl; (simp only [push_cast, seval] <;> (try simp (disch := omega) only [wI, wU, wC]) <;> exact rfl); (focus (first | (simp only [push_cast, seval]; done) | trivial | (simp only [push_cast, seval]; trivial) | (simp; done))); (focus (first | (simp only [push_cast, seval]; done) | trivial | (simp only [push_cast, seval]; trivial) | (simp; done))); (focus (first | (simp only [push_cast, seval]; done) | trivial | (simp only [push_cast, seval]; trivial) | (simp; done))); (try simp only [push_cast, seval]))
    simp at hb
    subst hb
    simp
  · intro hc
    repeat (first | apply Wp.seq | apply Wp.block | (apply Run.next; (simp only [push_cast, seval] <;> (try simp (disch := omega) only [wI, wU, wC]) <;> exact rfl); (focus ((try simp only [push_cast, seval]) <;> exact sT))) | ((first | apply Run.nil | apply Wp.skip); dsimp only [sQ, tQ, bQ]) | (apply Wp.run; (dsimp only [List.map] <;> exact rfl); exact rfl) | (apply Wp.exit; dsimp only [sQ, tQ, bQ]; simp only [reduceIte]))
    (apply Wp.ret; (try dsimp only [sQ, tQ, bQ]); apply leaveK; exact rfl; (simp only [push_cast, seval] <;> (try simp (disch := omega) only [wI, wU, wC]) <;> exact rfl); (focus (first | (simp only [push_cast, seval]; done) | trivial | (simp only [push_cast, seval]; trivial) | (simp; done))); (focus (first | (simp only [push_cast, seval]; done) | trivial | (simp only [push_cast, seval]; trivial) | (simp; done))); (focus (first | (simp only [push_cast, seval]; done) | trivial | (simp only [push_cast, seval]; trivial) | (simp; done))); (try simp only [push_cast, seval]))

end Go.Proofs.Try
set_option maxHeartbeats 8000000
set_option maxRecDepth 20000
namespace Go.Proofs.Try
open Go.Vg

/-! the first readings -/
def goCt (most : Int) (s : List (List Int)) (h : List Int) : List (List Int) × Bool := (s ++ [h], !decide ((s.length : Int) + 1 = most))
theorem fldCt (k : Nat) : ∀ (L s : List (List Int)), s.length < k → (fldC (goCt k) s L).1 = s ++ L.take (k - s.length)
  | [], s, _ => by simp [fldC]
  | x :: L, s, h => by
    obtain ⟨d, hd⟩ : ∃ d, k - s.length = d + 1 := ⟨k - s.length - 1, by omega⟩
    unfold fldC
    rw [hd, List.take_succ_cons]
    by_cases h1 : s.length + 1 = k
    · have e : (goCt k s x).2 = false := by
        simp only [goCt, Bool.not_eq_false', decide_eq_true_eq]; omega
      have hd0 : d = 0 := by omega
      rw [if_neg (by rw [e]; simp), hd0, List.take_zero]
      rfl
    · have e : (goCt k s x).2 = true := by
        simp only [goCt, Bool.not_eq_true', decide_eq_false_iff_not]; omega
      have hl : (goCt k s x).1.length = s.length + 1 := by simp [goCt]
      rw [if_pos e, fldCt k L _ (by omega), hl, show k - (s.length + 1) = d by omega]
      simp [goCt]
theorem cloneC (h : List Int) (n : Nat) (hn : n = h.length) (hl : h.length ≤ 1000) : Go.Vg.Spec Try.prog 17 [.ints h] [] (fun x m' => x = .osl 0 0 0 (h.map AV.int).length ∧ m' = [⟨0, .row 1 (h.map AV.int)⟩]) := by
  rw [List.length_map]
  exact clone_spec h (by omega)
def KhC (w s : Nat) (L : List AV) (most : Int) (t : List (Nat × AV)) (n : Nat) (ps : List Nat) (a b : Code) (st : List (List Int)) : Mem := [⟨0, .row 2 [lkA w s]⟩, ⟨0, .row 1 [.int most]⟩, ⟨0, .row 1 [.osl 5 st.length 0 st.length]⟩, ⟨0, .row 2 [lkA w s]⟩, ⟨0, .row 1 [.lst 7 L]⟩, ⟨st.length, .row 1 (st.map AV.ints)⟩, ⟨0, .dfr⟩, ⟨0, .lrec t n ps a b (if (st.length : Int) = most then some (.exit 0) else none) false⟩]
theorem Readings_pure {w s j : Nat} {L : List AV} {f : List Int → Int} (hL : ∀ k, okL k L = True) (hsh : ∀ k, shiftL k L = L) (hw1 : 1 ≤ w) (hw4 : w ≤ 4) (hs2 : 2 ≤ s) (hs10 : s ≤ 10) (hj1 : 1 ≤ j) (hj64 : j ≤ 64)
    (hck : Pure Try.prog 18 [lkA w s, .lst 7 L] (.int 0))
    (hf : ∀ c ∈ codesN s w, Pure Try.prog 44 [.lst 7 L, .ints c] (.int (f c))) : Pure Try.prog 9 [lkA w s, .lst 7 L, .int j] (.tup [.lst 1 (((rdgN f s w).take j).map AV.ints), .int 0]) := by
  have hwi := cwithin_pure j 1 64
  rw [wiC_ok (by omega) (by omega)] at hwi
  have hfd := fldCt j (rdgN f s w) [] (by simp; omega)
  rw [List.nil_append, List.length_nil, Nat.sub_zero] at hfd
  (refine Spec.of_body Try.func9 rfl (by rw [Try.ntmps9]; simp) 0 (by simp) ?_; rw [Try.results9, Try.ntmps9]; simp only [entry, zipArgs, Nat.reduceAdd])
  repeat (first | apply Wp.seq | apply Wp.block | (apply Run.next; (simp only [push_cast, seval, hL, hsh, AV.ok] <;> (try simp (disch := omega) only [wI, wU, wC]) <;> exact rfl); (focus ((try simp only [push_cast, seval, hL, hsh, AV.ok]) <;> exact sT))) | ((first | apply Run.nil | apply Wp.skip); dsimp only [sQ, tQ, bQ]) | (apply Wp.run; (dsimp only [List.map] <;> exact rfl); exact rfl) | (apply Wp.exit; dsimp only [sQ, tQ, bQ]; simp only [reduceIte]))
  (apply Run.pureP; (simp only [push_cast, seval, hL, hsh, AV.ok] <;> (try simp (disch := omega) only [wI, wU, wC]) <;> exact rfl); (exact (Enters.of Try.func18 rfl rfl)); (exact hck); (focus (simp only [push_cast, seval, hL, hsh, AV.ok] <;> first | trivial | assumption | (refine ⟨?_, ?_⟩ <;> assumption) | (simp; done))); (try dsimp only [putA, optG]))
  repeat (first | apply Wp.seq | apply Wp.block | (apply Run.next; (simp only [push_cast, seval, hL, hsh, AV.ok] <;> (try simp (disch := omega) only [wI, wU, wC]) <;> exact rfl); (focus ((try simp only [push_cast, seval, hL, hsh, AV.ok]) <;> exact sT))) | ((first | apply Run.nil | apply Wp.skip); dsimp only [sQ, tQ, bQ]) | (apply Wp.run; (dsimp only [List.map] <;> exact rfl); exact rfl) | (apply Wp.exit; dsimp only [sQ, tQ, bQ]; simp only [reduceIte]) | (apply Run.gtrue; (simp only [push_cast, seval, hL, hsh, AV.ok] <;> (try simp (disch := omega) only [wI, wU, wC]) <;> exact rfl); (simp only [push_cast, seval, hL, hsh, AV.ok] <;> (try simp (disch := omega) only [wI, wU, wC]) <;> exact rfl)) | (apply Run.gfalse (.bool false); (simp only [push_cast, seval, hL, hsh, AV.ok] <;> (try simp (disch := omega) only [wI, wU, wC]) <;> exact rfl); dsimp only [S.put, optG]) | (apply Wp.condT; (simp only [push_cast, seval, hL, hsh, AV.ok] <;> (try simp (disch := omega) only [wI, wU, wC]) <;> exact rfl)) | (apply Wp.condF; (simp only [push_cast, seval, hL, hsh, AV.ok] <;> (try simp (disch := omega) only [wI, wU, wC]) <;> exact rfl)))
  (apply Run.pureP; (simp only [push_cast, seval, hL, hsh, AV.ok] <;> (try simp (disch := omega) only [wI, wU, wC]) <;> exact rfl); (exact (Enters.of Try.func20 rfl rfl)); (exact hwi); (focus (simp only [push_cast, seval, hL, hsh, AV.ok] <;> first | trivial | assumption | (refine ⟨?_, ?_⟩ <;> assumption) | (simp; done))); (try dsimp only [putA, optG]))
  repeat (first | apply Wp.seq | apply Wp.block | (apply Run.next; (simp only [push_cast, seval, hL, hsh, AV.ok] <;> (try simp (disch := omega) only [wI, wU, wC]) <;> exact rfl); (focus ((try simp only [push_cast, seval, hL, hsh, AV.ok]) <;> exact sT))) | ((first | apply Run.nil | apply Wp.skip); dsimp only [sQ, tQ, bQ]) | (apply Wp.run; (dsimp only [List.map] <;> exact rfl); exact rfl) | (apply Wp.exit; dsimp only [sQ, tQ, bQ]; simp only [reduceIte]) | (apply Run.gtrue; (simp only [push_cast, seval, hL, hsh, AV.ok] <;> (try simp (disch := omega) only [wI, wU, wC]) <;> exact rfl); (simp only [push_cast, seval, hL, hsh, AV.ok] <;> (try simp (disch := omega) only [wI, wU, wC]) <;> exact rfl)) | (apply Run.gfalse (.bool false); (simp only [push_cast, seval, hL, hsh, AV.ok] <;> (try simp (disch := omega) only [wI, wU, wC]) <;> exact rfl); dsimp only [S.put, optG]) | (apply Wp.condT; (simp only [push_cast, seval, hL, hsh, AV.ok] <;> (try simp (disch := omega) only [wI, wU, wC]) <;> exact rfl)) | (apply Wp.condF; (simp only [push_cast, seval, hL, hsh, AV.ok] <;> (try simp (disch := omega) only [wI, wU, wC]) <;> exact rfl)))
  (apply Run.freshE (he := (Enters.of Try.func21 rfl rfl)); (simp only [push_cast, seval, hL, hsh, AV.ok] <;> first | exact rfl | assumption); (simp only [push_cast, seval, hL, hsh, AV.ok] <;> (try simp (disch := omega) only [wI, wU, wC]) <;> exact rfl); (exact readings_spec _ _ L hL); (focus (first | (simp only [push_cast, seval, hL, hsh, AV.ok]; done) | trivial | (simp only [push_cast, seval, hL, hsh, AV.ok]; trivial) | (simp; done))); (simp only [push_cast, seval, hL, hsh, AV.ok] <;> (try simp (disch := omega) only [wI, wU, wC]) <;> exact rfl); (simp only [push_cast, seval, hL, hsh, AV.ok] <;> (try simp (disch := omega) only [wI, wU, wC]) <;> exact rfl); dsimp only [S.put, optG])
  repeat (first | apply Wp.seq | apply Wp.block | (apply Run.next; (simp only [push_cast, seval, hL, hsh, AV.ok] <;> (try simp (disch := omega) only [wI, wU, wC]) <;> exact rfl); (focus ((try simp only [push_cast, seval, hL, hsh, AV.ok]) <;> exact sT))) | ((first | apply Run.nil | apply Wp.skip); dsimp only [sQ, tQ, bQ]) | (apply Wp.run; (dsimp only [List.map] <;> exact rfl); exact rfl) | (apply Wp.exit; dsimp only [sQ, tQ, bQ]; simp only [reduceIte]) | (apply Run.gtrue; (simp only [push_cast, seval, hL, hsh, AV.ok] <;> (try simp (disch := omega) only [wI, wU, wC]) <;> exact rfl); (simp only [push_cast, seval, hL, hsh, AV.ok] <;> (try simp (disch := omega) only [wI, wU, wC]) <;> exact rfl)) | (apply Run.gfalse (.bool false); (simp only [push_cast, seval, hL, hsh, AV.ok] <;> (try simp (disch := omega) only [wI, wU, wC]) <;> exact rfl); dsimp only [S.put, optG]) | (apply Wp.condT; (simp only [push_cast, seval, hL, hsh, AV.ok] <;> (try simp (disch := omega) only [wI, wU, wC]) <;> exact rfl)) | (apply Wp.condF; (simp only [push_cast, seval, hL, hsh, AV.ok] <;> (try simp (disch := omega) only [wI, wU, wC]) <;> exact rfl)))
  try simp only [hsh]
  generalize hHG : rdgN f s w = HG at hfd
  refine Wp.adoptRow 2 1 (ver := 0) (sz := 1) (l := [.emp]) (l' := [.osl 5 0 0 0]) rfl ?_ ?_
  · exact ⟨.inl (.inr ⟨rfl, 5, by simp, by simp, rfl⟩), trivial⟩
  dsimp only [List.set, List.replicate, List.cons_append, List.nil_append]
  have htl : (HG.take j).length ≤ 64 := by rw [List.length_take]; omega
  refine Wp.range (by (simp only [push_cast, seval, hL, hsh, AV.ok] <;> (try simp (disch := omega) only [wI, wU, wC]) <;> exact rfl)) (Enters.of Try.func42 rfl rfl) (N := 6) rfl (C := fun i M => i = (if ((HG.take j).length : Int) = j then some (.exit 0) else none) ∧ M = [⟨0, .row 2 [lkA w s]⟩, ⟨0, .row 1 [.int j]⟩, ⟨0, .row 1 [.osl 5 (HG.take j).length 0 (HG.take j).length]⟩, ⟨0, .row 2 [lkA w s]⟩, ⟨0, .row 1 [.lst 7 L]⟩, ⟨(HG.take j).length, .row 1 ((HG.take j).map AV.ints)⟩]) ?_ ?_
  · have hj0 : (if ((([] : List (List Int)).length : Nat) : Int) = (j : Int) then some (Code.exit 0) else none) = none := if_neg (by simp; omega)
    refine Go.Vg.Spec.mono (specAtC ?h0 (readI_spec (KhC w s L j ?t ?n ?ps ?a ?b) (goCt j) (fun st => st.length < j) (N := 8) (yid := 7) (wl := 3) (wc := 4) hL (fun s => rfl) ?_ (fun s l => rfl) (fun s l => rfl) hw1 hw4 hs2 hs10 hf (by omega) ?_ ?_ [] (by simp; omega))) ?_
    case h0 =>
      unfold KhC
      rw [hj0]
      rfl
    · intro s e he
      unfold KhC at he
      simp only [List.mem_cons, List.not_mem_nil, or_false] at he
      rcases he with rfl | rfl | rfl | rfl | rfl | rfl | rfl | rfl <;> simp [Kind.ok, AV.ok, okL, hL, okL_ints]
    · intro st c hs _ hg
      simp only [goCt, Bool.not_eq_true', decide_eq_false_iff_not] at hg ⊢
      simp only [List.length_append, List.length_cons, List.length_nil]
      omega
    · intro st c T hs hcm hT h4 hTok
      obtain ⟨hsl, _⟩ := codes_bd (by omega) hcm
      have hji : (if (st.length : Int) = (j : Int) then some (Code.exit 0) else none) = none := if_neg (by omega)
      match T, hT, h4, hTok with
      | [a1, a2, a3, a4, a5], _, h4, hTok =>
        have g1 := hTok a1 (by simp)
        have g2 := hTok a2 (by simp)
        have g3 := hTok a3 (by simp)
        have g4 := hTok a4 (by simp)
        have g5 := hTok a5 (by simp)
        have h4' : a5 = ⟨0, .row 1 (c.map AV.int)⟩ := h4
        subst h4'
        unfold KhC
        rw [hji]
        refine YSpec.of_body (id := 7) (ver := 0) rfl rfl (by simp) ?_
        intro Lv
        dsimp only [bindP, List.cons_append, List.nil_append]
        repeat (first | apply Wp.seq | apply Wp.block | (apply Run.next; (simp only [push_cast, seval, hL, hsh, AV.ok] <;> (try simp (disch := omega) only [wI, wU, wC]) <;> exact rfl); (focus ((try simp only [push_cast, seval, hL, hsh, AV.ok]) <;> exact sT))) | ((first | apply Run.nil | apply Wp.skip); dsimp only [sQ, tQ, bQ]) | (apply Wp.run; (dsimp only [List.map] <;> exact rfl); exact rfl) | (apply Wp.exit; dsimp only [sQ, tQ, bQ]; simp only [reduceIte]))
        refine ⟨rfl, rfl, ?_⟩
        dsimp only [List.set]
        repeat (first | apply Wp.seq | apply Wp.block)
        (apply Wp.runD 4 mixed; (dsimp only [List.map] <;> exact rfl); exact rfl; kernel_rfl; (dsimp only [List.take] <;> exact rfl); (dsimp only [List.drop] <;> exact rfl); (((repeat (apply Abn.next; (simp only [push_cast, seval, hL, hsh, AV.ok] <;> (try simp (disch := omega) only [wI, wU, wC]) <;> exact rfl); (focus ((try simp only [push_cast, seval, hL, hsh, AV.ok]) <;> exact sT)))); (apply Abn.freshZ; (simp only [push_cast, seval, hL, hsh, AV.ok] <;> (try simp (disch := omega) only [wI, wU, wC]) <;> exact rfl); (exact (Enters.of Try.func17 rfl rfl)); (exact cloneC c w hsl.symm (by omega)); (exact VwL.cons (Vw.ointsC w hsl rfl) VwL.nil); (simp only [push_cast, seval, hL, hsh, AV.ok] <;> first | trivial | (simp; done)); (try dsimp only [putA])); (repeat (apply Abn.next; (simp only [push_cast, seval, hL, hsh, AV.ok] <;> (try simp (disch := omega) only [wI, wU, wC]) <;> exact rfl); (focus ((try simp only [push_cast, seval, hL, hsh, AV.ok]) <;> exact sT))))); exact Abn.nil))
        repeat (first | apply Wp.seq | apply Wp.block | (apply Run.next; (simp only [push_cast, seval, hL, hsh, AV.ok] <;> (try simp (disch := omega) only [wI, wU, wC]) <;> exact rfl); (focus ((try simp only [push_cast, seval, hL, hsh, AV.ok]) <;> exact sT))) | ((first | apply Run.nil | apply Wp.skip); dsimp only [sQ, tQ, bQ]) | (apply Wp.run; (dsimp only [List.map] <;> exact rfl); exact rfl) | (apply Wp.exit; dsimp only [sQ, tQ, bQ]; simp only [reduceIte]))
        (apply Wp.cond; (simp only [push_cast, seval, hL, hsh, AV.ok] <;> (try simp (disch := omega) only [wI, wU, wC]) <;> exact rfl))
        · intro hc
          repeat (first | apply Wp.seq | apply Wp.block | (apply Run.next; (simp only [push_cast, seval, hL, hsh, AV.ok] <;> (try simp (disch := omega) only [wI, wU, wC]) <;> exact rfl); (focus ((try simp only [push_cast, seval, hL, hsh, AV.ok]) <;> exact sT))) | ((first | apply Run.nil | apply Wp.skip); dsimp only [sQ, tQ, bQ]) | (apply Wp.run; (dsimp only [List.map] <;> exact rfl); exact rfl) | (apply Wp.exit; dsimp only [sQ, tQ, bQ]; simp only [reduceIte]))
          simp only [decide_eq_true_eq] at hc
          apply Wp.exit
          dsimp only [bQ]
          rw [if_neg (by decide)]
          dsimp only [roundQ]
          refine ⟨rfl, ?_, ?_, ?_⟩
          · intro e he
            have he := List.mem_of_mem_take he
            simp only [List.mem_cons, List.not_mem_nil, or_false] at he
            repeat (rcases he with he | he; focus (subst he; first | assumption | exact of_eq_true (okL_ints _ _) | simp [Kind.ok, AV.ok, okL, hL, okL_ints, okL_int]))
            subst he; first | assumption | simp [Kind.ok, AV.ok, okL, hL, okL_ints, okL_int]
          · simp [goCt, hc]
          · simp only [goCt, List.length_append, List.length_cons, List.length_nil, Nat.zero_add, List.map_append, List.map_cons, List.map_nil]
            rw [if_pos (by omega)]
            rfl
        · intro hc
          repeat (first | apply Wp.seq | apply Wp.block | (apply Run.next; (simp only [push_cast, seval, hL, hsh, AV.ok] <;> (try simp (disch := omega) only [wI, wU, wC]) <;> exact rfl); (focus ((try simp only [push_cast, seval, hL, hsh, AV.ok]) <;> exact sT))) | ((first | apply Run.nil | apply Wp.skip); dsimp only [sQ, tQ, bQ]) | (apply Wp.run; (dsimp only [List.map] <;> exact rfl); exact rfl) | (apply Wp.exit; dsimp only [sQ, tQ, bQ]; simp only [reduceIte]))
          simp only [decide_eq_false_iff_not] at hc
          refine ⟨rfl, ?_, ?_, ?_⟩
          · intro e he
            have he := List.mem_of_mem_take he
            simp only [List.mem_cons, List.not_mem_nil, or_false] at he
            repeat (rcases he with he | he; focus (subst he; first | assumption | exact of_eq_true (okL_ints _ _) | simp [Kind.ok, AV.ok, okL, hL, okL_ints, okL_int]))
            subst he; first | assumption | simp [Kind.ok, AV.ok, okL, hL, okL_ints, okL_int]
          · simp [goCt, hc]
          · simp only [goCt, List.length_append, List.length_cons, List.length_nil, Nat.zero_add, List.map_append, List.map_cons, List.map_nil]
            rw [if_neg (by omega)]
            rfl
    · rintro x m' rfl
      rw [hHG, hfd]
      exact ⟨_, _, ⟨rfl, rfl⟩, rfl, rfl⟩
  · rintro M i ⟨hi, rfl⟩
    have hi2 : i = none ∨ i = some (.exit 0) := by rw [hi]; split <;> simp
    clear hi
    generalize HG.take j = out at htl
    rcases hi2 with rfl | rfl
    · dsimp only [bQ, sQ, tQ, List.cons_append, List.nil_append]
      refine Wp.freezeRow 2 5 (vi := out.length) (off := 0) (len := out.length) (szi := 1) (li := out.map AV.ints) (le' := [.lst 1 (out.map AV.ints)]) (by decide) rfl rfl (by simp) (by simp) ?_ ?_
      · exact ⟨.inl (.inr ⟨rfl, by rw [List.drop_zero, List.take_of_length_le (by simp)]⟩), trivial⟩
      dsimp only [List.set]
      repeat (first | apply Wp.seq | apply Wp.block | (apply Run.next; (simp only [push_cast, seval, hL, hsh, AV.ok] <;> (try simp (disch := omega) only [wI, wU, wC]) <;> exact rfl); (focus ((try simp only [push_cast, seval, hL, hsh, AV.ok]) <;> exact sT))) | ((first | apply Run.nil | apply Wp.skip); dsimp only [sQ, tQ, bQ]) | (apply Wp.run; (dsimp only [List.map] <;> exact rfl); exact rfl) | (apply Wp.exit; dsimp only [sQ, tQ, bQ]; simp only [reduceIte]))
      (apply Wp.ret; (try dsimp only [sQ, tQ, bQ]); apply leaveM; (focus (first | (simp only [push_cast, seval, hL, hsh, AV.ok]; done) | trivial | (simp only [push_cast, seval, hL, hsh, AV.ok]; trivial) | (simp; done))); (focus (first | (simp only [push_cast, seval, hL, hsh, AV.ok]; done) | trivial | (simp only [push_cast, seval, hL, hsh, AV.ok]; trivial) | (simp; done))); (simp only [push_cast, seval, hL, hsh, AV.ok] <;> (try simp (disch := omega) only [wI, wU, wC]) <;> exact rfl); (focus (first | (simp only [push_cast, seval, hL, hsh, AV.ok]; done) | trivial | (simp only [push_cast, seval, hL, hsh, AV.ok]; trivial) | (simp; done))); (focus (first | (simp only [push_cast, seval, hL, hsh, AV.ok]; done) | trivial | (simp only [push_cast, seval, hL, hsh, AV.ok]; trivial) | (simp; done))); (focus (first | (simp only [push_cast, seval, hL, hsh, AV.ok]; done) | trivial | (simp only [push_cast, seval, hL, hsh, AV.ok]; trivial) | (simp; done))); (try simp only [push_cast, seval, hL, hsh, AV.ok]))
    · apply Wp.exit
      dsimp only [bQ]
      rw [if_pos rfl]
      dsimp only [bQ, sQ, tQ, List.cons_append, List.nil_append]
      refine Wp.freezeRow 2 5 (vi := out.length) (off := 0) (len := out.length) (szi := 1) (li := out.map AV.ints) (le' := [.lst 1 (out.map AV.ints)]) (by decide) rfl rfl (by simp) (by simp) ?_ ?_
      · exact ⟨.inl (.inr ⟨rfl, by rw [List.drop_zero, List.take_of_length_le (by simp)]⟩), trivial⟩
      dsimp only [List.set]
      repeat (first | apply Wp.seq | apply Wp.block | (apply Run.next; (simp only [push_cast, seval, hL, hsh, AV.ok] <;> (try simp (disch := omega) only [wI, wU, wC]) <;> exact rfl); (focus ((try simp only [push_cast, seval, hL, hsh, AV.ok]) <;> exact sT))) | ((first | apply Run.nil | apply Wp.skip); dsimp only [sQ, tQ, bQ]) | (apply Wp.run; (dsimp only [List.map] <;> exact rfl); exact rfl) | (apply Wp.exit; dsimp only [sQ, tQ, bQ]; simp only [reduceIte]))
      (apply Wp.ret; (try dsimp only [sQ, tQ, bQ]); apply leaveM; (focus (first | (simp only [push_cast, seval, hL, hsh, AV.ok]; done) | trivial | (simp only [push_cast, seval, hL, hsh, AV.ok]; trivial) | (simp; done))); (focus (first | (simp only [push_cast, seval, hL, hsh, AV.ok]; done) | trivial | (simp only [push_cast, seval, hL, hsh, AV.ok]; trivial) | (simp; done))); (simp only [push_cast, seval, hL, hsh, AV.ok] <;> (try simp (disch := omega) only [wI, wU, wC]) <;> exact rfl); (focus (first | (simp only [push_cast, seval, hL, hsh, AV.ok]; done) | trivial | (simp only [push_cast, seval, hL, hsh, AV.ok]; trivial) | (simp; done))); (focus (first | (simp only [push_cast, seval, hL, hsh, AV.ok]; done) | trivial | (simp only [push_cast, seval, hL, hsh, AV.ok]; trivial) | (simp; done))); (focus (first | (simp only [push_cast, seval, hL, hsh, AV.ok]; done) | trivial | (simp only [push_cast, seval, hL, hsh, AV.ok]; trivial) | (simp; done))); (try simp only [push_cast, seval, hL, hsh, AV.ok]))
end Go.Proofs.Try
set_option maxHeartbeats 8000000
set_option maxRecDepth 20000
namespace Go.Proofs.Try
open Go.Vg

/-! the look at a lock -/
theorem namedC : Named Try.prog 100 := namedB_ok (by kernel_rfl)
abbrev cl4 : AV := .agg [.int 2, .int 0, .int 1, .int 4, .int 0, .emp, .bool false]
def fS (c : List Int) : Int := if c.getD 0 0 + c.getD 1 0 = 4 then -1 else 0
theorem cnt_check : Pure Try.prog 18 [lkA 2 4, .lst 7 [cl4]] (.int 0) := xFz_pure namedC mixed (by kernel_rfl)
theorem cnt_codes : codesN 4 2 = [[0, 0], [0, 1], [0, 2], [0, 3], [1, 0], [1, 1], [1, 2], [1, 3], [2, 0], [2, 1], [2, 2], [2, 3], [3, 0], [3, 1], [3, 2], [3, 3]] := by decide
theorem cnt_fails : ∀ c ∈ codesN 4 2, Pure Try.prog 44 [.lst 7 [cl4], .ints c] (.int (fS c)) := by
  intro c hc
  rw [cnt_codes] at hc
  simp only [List.mem_cons, List.not_mem_nil, or_false] at hc
  rcases hc with rfl | rfl | rfl | rfl | rfl | rfl | rfl | rfl | rfl | rfl | rfl | rfl | rfl | rfl | rfl | rfl <;> exact xFz_pure namedC mixed (by kernel_rfl)
theorem cnt_count : Pure Try.prog 8 [lkA 2 4, .lst 7 [cl4]] (.tup [.int 3, .int 0]) := by
  have h := Count_pure (w := 2) (s := 4) (L := [cl4]) (f := fS) (fun k => by simp [AV.ok, okL]) (fun k => rfl) (by omega) (by omega) (by omega) (by omega) cnt_check cnt_fails
  have e : rdgN fS 4 2 = [[1, 3], [2, 2], [3, 1]] := by decide
  rw [e] at h
  exact h
theorem counts_pure : Pure Try.prog 5 [] (.bool true) := by
  have h := cnt_count
  (refine Spec.of_body Try.func5 rfl (by rw [Try.ntmps5]; simp) 0 (by simp) ?_; rw [Try.results5, Try.ntmps5]; simp only [entry, zipArgs, Nat.reduceAdd])
  repeat (first | apply Wp.seq | apply Wp.block | (apply Run.next; (simp only [push_cast, seval] <;> (try simp (disch := omega) only [wI, wU, wC]) <;> exact rfl); (focus ((try simp only [push_cast, seval]) <;> exact sT))) | ((first | apply Run.nil | apply Wp.skip); dsimp only [sQ, tQ, bQ]) | (apply Wp.run; (dsimp only [List.map] <;> exact rfl); exact rfl) | (apply Wp.exit; dsimp only [sQ, tQ, bQ]; simp only [reduceIte]))
  (apply Run.pureP; (simp only [push_cast, seval] <;> (try simp (disch := omega) only [wI, wU, wC]) <;> exact rfl); (exact (Enters.of Try.func8 rfl rfl)); (exact h); (focus (simp only [push_cast, seval] <;> first | trivial | assumption | (refine ⟨?_, ?_⟩ <;> assumption) | (simp; done))); (try dsimp only [putA, optG]))
  repeat (first | apply Wp.seq | apply Wp.block | (apply Run.next; (simp only [push_cast, seval] <;> (try simp (disch := omega) only [wI, wU, wC]) <;> exact rfl); (focus ((try simp only [push_cast, seval]) <;> exact sT))) | ((first | apply Run.nil | apply Wp.skip); dsimp only [sQ, tQ, bQ]) | (apply Wp.run; (dsimp only [List.map] <;> exact rfl); exact rfl) | (apply Wp.exit; dsimp only [sQ, tQ, bQ]; simp only [reduceIte]) | (apply Run.gtrue; (simp only [push_cast, seval] <;> (try simp (disch := omega) only [wI, wU, wC]) <;> exact rfl); (simp only [push_cast, seval] <;> (try simp (disch := omega) only [wI, wU, wC]) <;> exact rfl)) | (apply Run.gfalse (.bool false); (simp only [push_cast, seval] <;> (try simp (disch := omega) only [wI, wU, wC]) <;> exact rfl); dsimp only [S.put, optG]) | (apply Wp.condT; (simp only [push_cast, seval] <;> (try simp (disch := omega) only [wI, wU, wC]) <;> exact rfl)) | (apply Wp.condF; (simp only [push_cast, seval] <;> (try simp (disch := omega) only [wI, wU, wC]) <;> exact rfl)))
  (apply Wp.ret; (try dsimp only [sQ, tQ, bQ]); apply leave0; exact rfl; (simp only [push_cast, seval] <;> (try simp (disch := omega) only [wI, wU, wC]) <;> exact rfl); all_goals (try simp only [push_cast, seval]); (try rfl))
end Go.Proofs.Try
set_option maxHeartbeats 8000000
namespace Go.Proofs.Try
open Go.Vg

/-! portraits and sentences -/
structure Pt where
  kind : Int
  a : Int
  b : Int
  n : Int
  no : Bool
def ptA (x : Pt) : AV := .agg [.int x.kind, .int x.a, .int x.b, .int x.n, .bool x.no]
abbrev pt0 : Pt := ⟨0, 0, 0, 0, false⟩
theorem getD_pt (l : List Pt) (i : Nat) : (l.map ptA).getD i (.agg [.val (.int .i64 0), .val (.int .i64 0), .val (.int .i64 0), .val (.int .i64 0), .val (.bool false)]) = ptA (l.getD i pt0) := getD_map' ptA l i pt0
theorem okL_mapP {α : Type} {f : α → AV} (k : Nat) (l : List α) (h : ∀ x, (f x).ok k) : okL k (l.map f) := okL_iff.2 fun x hx => by
  obtain ⟨y, _, rfl⟩ := List.mem_map.1 hx
  exact h y
theorem okL_pt (k : Nat) (l : List Pt) : okL k (l.map ptA) = True := eq_true (okL_mapP k l fun x => by simp [ptA, AV.ok, okL])
attribute [push_cast] ptA getD_pt okL_pt
theorem memPt {l : List Pt} {k : Nat} (h : k < l.length) : l.getD k pt0 ∈ l := by simp [h]
theorem findPt {l : List Pt} {p : Pt → Bool} {k : Nat} (hk : k < l.length) (h1 : ∀ j, j < k → p (l.getD j pt0) = false) (h2 : p (l.getD k pt0) = true) : l.any p = true ∧ l.findIdx p = k := by
  have e : ∀ j (hj : j < l.length), l.getD j pt0 = l[j] := fun j hj => by simp [hj]
  refine ⟨List.any_eq_true.2 ⟨l[k], List.getElem_mem hk, by rw [← e k hk]; exact h2⟩, ?_⟩
  rw [List.findIdx_eq hk]
  refine ⟨by rw [← e k hk]; exact h2, fun j hj => ?_⟩
  have := h1 j hj
  rw [e j (by omega)] at this
  exact this
theorem anyNonePt {l : List Pt} {p : Pt → Bool} (h : ∀ j, j < l.length → p (l.getD j pt0) = false) : l.any p = false := by
  rw [List.any_eq_false]
  intro x hx
  obtain ⟨i, hi, rfl⟩ := List.getElem_of_mem hx
  have := h i hi
  simp [hi] at this
  simp [this]
theorem indexFuncPt (l : List Pt) (g : FuncId) (caps : List AV) (p : Pt → Bool) (hg : Enters Try.prog g) (hk : okL 0 caps) (hcv : ∀ m, caps.map (view m) = caps ∧ caps.map (view2 m) = caps) (hp : ∀ x ∈ l, Pure Try.prog g (ptA x :: caps) (.bool (p x))) (hl : l.length ≤ 9223372036854775807) :
    Pure Try.prog 58 [.lst 5 (l.map ptA), .clo g caps] (.int (if l.any p then (l.findIdx p : Int) else -1)) := by
  (refine Spec.of_body Try.func58 rfl (by rw [Try.ntmps58]; simp) 0 (by simp) ?_; rw [Try.results58, Try.ntmps58]; simp only [entry, zipArgs, Nat.reduceAdd])
  repeat (first | apply Wp.seq | apply Wp.block | (apply Run.next; (simp only [push_cast, seval, hcv, List.map_append] <;> (try simp (disch := omega) only [wI, wU, wC]) <;> exact rfl); (focus ((try simp only [push_cast, seval, hcv, List.map_append]) <;> exact sT))) | ((first | apply Run.nil | apply Wp.skip); dsimp only [sQ, tQ, bQ]) | (apply Wp.run; (dsimp only [List.map] <;> exact rfl); exact rfl) | (apply Wp.exit; dsimp only [sQ, tQ, bQ]; simp only [reduceIte]))
  refine Wp.loop (fun k : Nat => { t := [(0, .lst 5 (l.map ptA)), (1, .clo g caps), (7, .int l.length), (8, .int k)], m := [], n := 19 }) (fun k => k ≤ l.length ∧ ∀ j, j < k → p (l.getD j pt0) = false) (fun k => l.length - k) 0 ?_ ?_ ?_
  · (refine Le.of ?_ ?_ rfl rfl <;> (try simp only [push_cast, seval, hcv, List.map_append]) <;> (try (with_reducible rfl)))
  · simp
  · rintro k ⟨hk1, hk2⟩
    repeat (first | apply Wp.seq | apply Wp.block | (apply Run.next; (simp only [push_cast, seval, hcv, List.map_append] <;> (try simp (disch := omega) only [wI, wU, wC]) <;> exact rfl); (focus ((try simp only [push_cast, seval, hcv, List.map_append]) <;> exact sT))) | ((first | apply Run.nil | apply Wp.skip); dsimp only [sQ, tQ, bQ]) | (apply Wp.run; (dsimp only [List.map] <;> exact rfl); exact rfl) | (apply Wp.exit; dsimp only [sQ, tQ, bQ]; simp only [reduceIte]))
    (apply Wp.cond; (simp only [push_cast, seval, hcv, List.map_append] <;> (try simp (disch := omega) only [wI, wU, wC]) <;> exact rfl))
    · (intro hc; try simp only [decide_eq_true_eq, decide_eq_false_iff_not, Bool.and_eq_true, Bool.or_eq_true, Bool.not_eq_true, Bool.not_eq_false, Bool.not_eq_true', Bool.not_eq_false', Bool.and_eq_false_iff, Bool.or_eq_false_iff, Int.not_lt, Int.not_le, Int.ofNat_lt, Int.ofNat_le] at hc)
      have hpk := hp _ (memPt hc)
      generalize hx : l.getD k pt0 = x at hpk
      repeat (first | apply Wp.seq | apply Wp.block | (apply Run.next; (simp only [push_cast, seval, hcv, List.map_append, hx] <;> (try simp (disch := omega) only [wI, wU, wC]) <;> exact rfl); (focus ((try simp only [push_cast, seval, hcv, List.map_append, hx]) <;> exact sT))) | ((first | apply Run.nil | apply Wp.skip); dsimp only [sQ, tQ, bQ]) | (apply Wp.run; (dsimp only [List.map] <;> exact rfl); exact rfl) | (apply Wp.exit; dsimp only [sQ, tQ, bQ]; simp only [reduceIte]))
      (apply Run.pureP; (simp only [push_cast, seval, hcv, List.map_append, hx] <;> (try simp (disch := omega) only [wI, wU, wC]) <;> exact rfl); (exact hg); (exact hpk); (focus (simp only [push_cast, seval, hcv, List.map_append, hx] <;> first | trivial | assumption | (refine ⟨?_, ?_⟩ <;> assumption) | (simp; done))); (try dsimp only [putA, optG]))
      repeat (first | apply Wp.seq | apply Wp.block | (apply Run.next; (simp only [push_cast, seval, hcv, List.map_append, hx] <;> (try simp (disch := omega) only [wI, wU, wC]) <;> exact rfl); (focus ((try simp only [push_cast, seval, hcv, List.map_append, hx]) <;> exact sT))) | ((first | apply Run.nil | apply Wp.skip); dsimp only [sQ, tQ, bQ]) | (apply Wp.run; (dsimp only [List.map] <;> exact rfl); exact rfl) | (apply Wp.exit; dsimp only [sQ, tQ, bQ]; simp only [reduceIte]))
      (apply Wp.cond; (simp only [push_cast, seval, hcv, List.map_append, hx] <;> (try simp (disch := omega) only [wI, wU, wC]) <;> exact rfl))
      · intro h2
        rw [← hx] at h2
        obtain ⟨e1, e2⟩ := findPt hc hk2 h2
        repeat (first | apply Wp.seq | apply Wp.block | (apply Run.next; (simp only [push_cast, seval, hcv, List.map_append, hx] <;> (try simp (disch := omega) only [wI, wU, wC]) <;> exact rfl); (focus ((try simp only [push_cast, seval, hcv, List.map_append, hx]) <;> exact sT))) | ((first | apply Run.nil | apply Wp.skip); dsimp only [sQ, tQ, bQ]) | (apply Wp.run; (dsimp only [List.map] <;> exact rfl); exact rfl) | (apply Wp.exit; dsimp only [sQ, tQ, bQ]; simp only [reduceIte]))
        (apply Wp.ret; (try dsimp only [sQ, tQ, bQ]); apply leave0; exact rfl; (simp only [push_cast, seval, hcv, List.map_append, hx] <;> (try simp (disch := omega) only [wI, wU, wC]) <;> exact rfl); all_goals (try simp only [push_cast, seval, hcv, List.map_append, hx]); (try rfl))
        rw [e1, e2]; rfl
      · intro h2
        repeat (first | apply Wp.seq | apply Wp.block | (apply Run.next; (simp only [push_cast, seval, hcv, List.map_append, hx] <;> (try simp (disch := omega) only [wI, wU, wC]) <;> exact rfl); (focus ((try simp only [push_cast, seval, hcv, List.map_append, hx]) <;> exact sT))) | ((first | apply Run.nil | apply Wp.skip); dsimp only [sQ, tQ, bQ]) | (apply Wp.run; (dsimp only [List.map] <;> exact rfl); exact rfl) | (apply Wp.exit; dsimp only [sQ, tQ, bQ]; simp only [reduceIte]))
        refine ⟨k + 1, ?_, ⟨by omega, fun j hj => ?_⟩, by omega⟩
        · (refine Le.of ?_ ?_ rfl rfl <;> (try simp only [push_cast, seval, hcv, List.map_append, hx]) <;> (try (with_reducible rfl)))
        · by_cases hjk : j = k
          · subst hjk; rw [hx]; exact h2
          · exact hk2 j (by omega)
    · (intro hc; try simp only [decide_eq_true_eq, decide_eq_false_iff_not, Bool.and_eq_true, Bool.or_eq_true, Bool.not_eq_true, Bool.not_eq_false, Bool.not_eq_true', Bool.not_eq_false', Bool.and_eq_false_iff, Bool.or_eq_false_iff, Int.not_lt, Int.not_le, Int.ofNat_lt, Int.ofNat_le] at hc)
      repeat (first | apply Wp.seq | apply Wp.block | (apply Run.next; (simp only [push_cast, seval, hcv, List.map_append] <;> (try simp (disch := omega) only [wI, wU, wC]) <;> exact rfl); (focus ((try simp only [push_cast, seval, hcv, List.map_append]) <;> exact sT))) | ((first | apply Run.nil | apply Wp.skip); dsimp only [sQ, tQ, bQ]) | (apply Wp.run; (dsimp only [List.map] <;> exact rfl); exact rfl) | (apply Wp.exit; dsimp only [sQ, tQ, bQ]; simp only [reduceIte]))
      obtain rfl : k = l.length := by omega
      have e1 := anyNonePt hk2
      (apply Wp.ret; (try dsimp only [sQ, tQ, bQ]); apply leave0; exact rfl; (simp only [push_cast, seval, hcv, List.map_append] <;> (try simp (disch := omega) only [wI, wU, wC]) <;> exact rfl); all_goals (try simp only [push_cast, seval, hcv, List.map_append]); (try rfl))
      rw [e1]; rfl
theorem containsFuncPt (l : List Pt) (g : FuncId) (caps : List AV) (p : Pt → Bool) (hg : Enters Try.prog g) (hk : okL 0 caps) (hcv : ∀ m, caps.map (view m) = caps ∧ caps.map (view2 m) = caps) (hp : ∀ x ∈ l, Pure Try.prog g (ptA x :: caps) (.bool (p x))) (hl : l.length ≤ 9223372036854775807) :
    Pure Try.prog 30 [.lst 5 (l.map ptA), .clo g caps] (.bool (l.any p)) := by
  (refine Spec.of_body Try.func30 rfl (by rw [Try.ntmps30]; simp) 0 (by simp) ?_; rw [Try.results30, Try.ntmps30]; simp only [entry, zipArgs, Nat.reduceAdd])
  repeat (first | apply Wp.seq | apply Wp.block | (apply Run.next; (simp only [push_cast, seval, hcv, List.map_append] <;> (try simp (disch := omega) only [wI, wU, wC]) <;> exact rfl); (focus ((try simp only [push_cast, seval, hcv, List.map_append]) <;> exact sT))) | ((first | apply Run.nil | apply Wp.skip); dsimp only [sQ, tQ, bQ]) | (apply Wp.run; (dsimp only [List.map] <;> exact rfl); exact rfl) | (apply Wp.exit; dsimp only [sQ, tQ, bQ]; simp only [reduceIte]))
  (apply Run.pureP; (simp only [push_cast, seval, hcv, List.map_append] <;> (try simp (disch := omega) only [wI, wU, wC]) <;> exact rfl); (exact (Enters.of Try.func58 rfl rfl)); (exact indexFuncPt l g caps p hg hk hcv hp hl); (focus (simp only [push_cast, seval, hcv, List.map_append] <;> first | trivial | assumption | (refine ⟨?_, ?_⟩ <;> assumption) | (simp; done))); (try dsimp only [putA, optG]))
  repeat (first | apply Wp.seq | apply Wp.block | (apply Run.next; (simp only [push_cast, seval, hcv, List.map_append] <;> (try simp (disch := omega) only [wI, wU, wC]) <;> exact rfl); (focus ((try simp only [push_cast, seval, hcv, List.map_append]) <;> exact sT))) | ((first | apply Run.nil | apply Wp.skip); dsimp only [sQ, tQ, bQ]) | (apply Wp.run; (dsimp only [List.map] <;> exact rfl); exact rfl) | (apply Wp.exit; dsimp only [sQ, tQ, bQ]; simp only [reduceIte]))
  (apply Wp.ret; (try dsimp only [sQ, tQ, bQ]); apply leave0; exact rfl; (simp only [push_cast, seval, hcv, List.map_append] <;> (try simp (disch := omega) only [wI, wU, wC]) <;> exact rfl); all_goals (try simp only [push_cast, seval, hcv, List.map_append]); (try rfl))
  split <;> simp_all
/-- whether a sentence says that it holds, by the places of the two -/
def farP (a b : Int) : Int := max (a - b) (b - a)
def isP (x : Pt) (a b : Int) : Bool := if x.kind = 1 then decide (a = x.n) else if x.kind = 2 then decide (a < b) else if x.kind = 3 then decide (farP a b = 1) else if x.kind = 4 then decide (x.n < farP a b) else false
def hoP (x : Pt) (pl : Nat → Int) : Bool := !decide (isP x (pl x.a.toNat) (pl x.b.toNat) = x.no)
/-- a sentence about n portraits -/
structure PV (n : Nat) (x : Pt) : Prop where
  a : 0 ≤ x.a ∧ x.a < n
  b : 0 ≤ x.b ∧ x.b < n
theorem holds_pure {n : Nat} {x : Pt} (hx : PV n x) (pl : List Int) (hl : pl.length = n) (hb : ∀ i, -1 ≤ pl.getD i 0 ∧ pl.getD i 0 ≤ 100) : Pure Try.prog 37 [ptA x, .ints pl] (.bool (hoP x fun i => pl.getD i 0)) := by
  obtain ⟨⟨a1, a2⟩, ⟨b1, b2⟩⟩ := hx
  have ha := hb x.a.toNat
  have hbb := hb x.b.toNat
  unfold hoP isP farP
  generalize hpa : pl.getD x.a.toNat 0 = a at ha
  generalize hpb : pl.getD x.b.toNat 0 = b at hbb
  (refine Spec.of_body Try.func37 rfl (by rw [Try.ntmps37]; simp) 0 (by simp) ?_; rw [Try.results37, Try.ntmps37]; simp only [entry, zipArgs, Nat.reduceAdd])
  repeat (first | apply Wp.seq | apply Wp.block | (apply Run.next; (simp only [push_cast, seval, hpa, hpb, hl] <;> (try simp (disch := omega) only [wI, wU, wC]) <;> exact rfl); (focus ((try simp only [push_cast, seval, hpa, hpb, hl]) <;> exact sT))) | ((first | apply Run.nil | apply Wp.skip); dsimp only [sQ, tQ, bQ]) | (apply Wp.run; (dsimp only [List.map] <;> exact rfl); exact rfl) | (apply Wp.exit; dsimp only [sQ, tQ, bQ]; simp only [reduceIte]))
  (apply Wp.cond; (simp only [push_cast, seval, hpa, hpb, hl] <;> (try simp (disch := omega) only [wI, wU, wC]) <;> exact rfl))
  · intro h1
    simp only [decide_eq_true_eq] at h1
    rw [if_pos h1]
    repeat (first | apply Wp.seq | apply Wp.block | (apply Run.next; (simp only [push_cast, seval, hpa, hpb, hl] <;> (try simp (disch := omega) only [wI, wU, wC]) <;> exact rfl); (focus ((try simp only [push_cast, seval, hpa, hpb, hl]) <;> exact sT))) | ((first | apply Run.nil | apply Wp.skip); dsimp only [sQ, tQ, bQ]) | (apply Wp.run; (dsimp only [List.map] <;> exact rfl); exact rfl) | (apply Wp.exit; dsimp only [sQ, tQ, bQ]; simp only [reduceIte]))
    (apply Wp.ret; (try dsimp only [sQ, tQ, bQ]); apply leave0; exact rfl; (simp only [push_cast, seval, hpa, hpb, hl] <;> (try simp (disch := omega) only [wI, wU, wC]) <;> exact rfl); all_goals (try simp only [push_cast, seval, hpa, hpb, hl]); (try rfl))
  · intro h1
    simp only [decide_eq_false_iff_not] at h1
    rw [if_neg h1]
    repeat (first | apply Wp.seq | apply Wp.block | (apply Run.next; (simp only [push_cast, seval, hpa, hpb, hl] <;> (try simp (disch := omega) only [wI, wU, wC]) <;> exact rfl); (focus ((try simp only [push_cast, seval, hpa, hpb, hl]) <;> exact sT))) | ((first | apply Run.nil | apply Wp.skip); dsimp only [sQ, tQ, bQ]) | (apply Wp.run; (dsimp only [List.map] <;> exact rfl); exact rfl) | (apply Wp.exit; dsimp only [sQ, tQ, bQ]; simp only [reduceIte]))
    (apply Wp.cond; (simp only [push_cast, seval, hpa, hpb, hl] <;> (try simp (disch := omega) only [wI, wU, wC]) <;> exact rfl))
    · intro h2
      simp only [decide_eq_true_eq] at h2
      rw [if_pos h2]
      repeat (first | apply Wp.seq | apply Wp.block | (apply Run.next; (simp only [push_cast, seval, hpa, hpb, hl] <;> (try simp (disch := omega) only [wI, wU, wC]) <;> exact rfl); (focus ((try simp only [push_cast, seval, hpa, hpb, hl]) <;> exact sT))) | ((first | apply Run.nil | apply Wp.skip); dsimp only [sQ, tQ, bQ]) | (apply Wp.run; (dsimp only [List.map] <;> exact rfl); exact rfl) | (apply Wp.exit; dsimp only [sQ, tQ, bQ]; simp only [reduceIte]))
      (apply Wp.ret; (try dsimp only [sQ, tQ, bQ]); apply leave0; exact rfl; (simp only [push_cast, seval, hpa, hpb, hl] <;> (try simp (disch := omega) only [wI, wU, wC]) <;> exact rfl); all_goals (try simp only [push_cast, seval, hpa, hpb, hl]); (try rfl))
    · intro h2
      simp only [decide_eq_false_iff_not] at h2
      rw [if_neg h2]
      repeat (first | apply Wp.seq | apply Wp.block | (apply Run.next; (simp only [push_cast, seval, hpa, hpb, hl] <;> (try simp (disch := omega) only [wI, wU, wC]) <;> exact rfl); (focus ((try simp only [push_cast, seval, hpa, hpb, hl]) <;> exact sT))) | ((first | apply Run.nil | apply Wp.skip); dsimp only [sQ, tQ, bQ]) | (apply Wp.run; (dsimp only [List.map] <;> exact rfl); exact rfl) | (apply Wp.exit; dsimp only [sQ, tQ, bQ]; simp only [reduceIte]))
      (apply Wp.cond; (simp only [push_cast, seval, hpa, hpb, hl] <;> (try simp (disch := omega) only [wI, wU, wC]) <;> exact rfl))
      · intro h3
        simp only [decide_eq_true_eq] at h3
        rw [if_pos h3]
        repeat (first | apply Wp.seq | apply Wp.block | (apply Run.next; (simp only [push_cast, seval, hpa, hpb, hl] <;> (try simp (disch := omega) only [wI, wU, wC]) <;> exact rfl); (focus ((try simp only [push_cast, seval, hpa, hpb, hl]) <;> exact sT))) | ((first | apply Run.nil | apply Wp.skip); dsimp only [sQ, tQ, bQ]) | (apply Wp.run; (dsimp only [List.map] <;> exact rfl); exact rfl) | (apply Wp.exit; dsimp only [sQ, tQ, bQ]; simp only [reduceIte]))
        (apply Wp.runD 17 mixed; (dsimp only [List.map] <;> exact rfl); exact rfl; kernel_rfl; (dsimp only [List.take] <;> exact rfl); (dsimp only [List.drop] <;> exact rfl); (((repeat (apply Abn.next; (simp only [push_cast, seval, hpa, hpb, hl] <;> (try simp (disch := omega) only [wI, wU, wC]) <;> exact rfl); (focus ((try simp only [push_cast, seval, hpa, hpb, hl]) <;> exact sT))))); exact Abn.nil))
        repeat (first | apply Wp.seq | apply Wp.block | (apply Run.next; (simp only [push_cast, seval, hpa, hpb, hl] <;> (try simp (disch := omega) only [wI, wU, wC]) <;> exact rfl); (focus ((try simp only [push_cast, seval, hpa, hpb, hl]) <;> exact sT))) | ((first | apply Run.nil | apply Wp.skip); dsimp only [sQ, tQ, bQ]) | (apply Wp.run; (dsimp only [List.map] <;> exact rfl); exact rfl) | (apply Wp.exit; dsimp only [sQ, tQ, bQ]; simp only [reduceIte]))
        (apply Wp.ret; (try dsimp only [sQ, tQ, bQ]); apply leave0; exact rfl; (simp only [push_cast, seval, hpa, hpb, hl] <;> (try simp (disch := omega) only [wI, wU, wC]) <;> exact rfl); all_goals (try simp only [push_cast, seval, hpa, hpb, hl]); (try rfl))
      · intro h3
        simp only [decide_eq_false_iff_not] at h3
        rw [if_neg h3]
        repeat (first | apply Wp.seq | apply Wp.block | (apply Run.next; (simp only [push_cast, seval, hpa, hpb, hl] <;> (try simp (disch := omega) only [wI, wU, wC]) <;> exact rfl); (focus ((try simp only [push_cast, seval, hpa, hpb, hl]) <;> exact sT))) | ((first | apply Run.nil | apply Wp.skip); dsimp only [sQ, tQ, bQ]) | (apply Wp.run; (dsimp only [List.map] <;> exact rfl); exact rfl) | (apply Wp.exit; dsimp only [sQ, tQ, bQ]; simp only [reduceIte]))
        (apply Wp.cond; (simp only [push_cast, seval, hpa, hpb, hl] <;> (try simp (disch := omega) only [wI, wU, wC]) <;> exact rfl))
        · intro h4
          simp only [decide_eq_true_eq] at h4
          rw [if_pos h4]
          repeat (first | apply Wp.seq | apply Wp.block | (apply Run.next; (simp only [push_cast, seval, hpa, hpb, hl] <;> (try simp (disch := omega) only [wI, wU, wC]) <;> exact rfl); (focus ((try simp only [push_cast, seval, hpa, hpb, hl]) <;> exact sT))) | ((first | apply Run.nil | apply Wp.skip); dsimp only [sQ, tQ, bQ]) | (apply Wp.run; (dsimp only [List.map] <;> exact rfl); exact rfl) | (apply Wp.exit; dsimp only [sQ, tQ, bQ]; simp only [reduceIte]))
          (apply Wp.runD 19 mixed; (dsimp only [List.map] <;> exact rfl); exact rfl; kernel_rfl; (dsimp only [List.take] <;> exact rfl); (dsimp only [List.drop] <;> exact rfl); (((repeat (apply Abn.next; (simp only [push_cast, seval, hpa, hpb, hl] <;> (try simp (disch := omega) only [wI, wU, wC]) <;> exact rfl); (focus ((try simp only [push_cast, seval, hpa, hpb, hl]) <;> exact sT))))); exact Abn.nil))
          repeat (first | apply Wp.seq | apply Wp.block | (apply Run.next; (simp only [push_cast, seval, hpa, hpb, hl] <;> (try simp (disch := omega) only [wI, wU, wC]) <;> exact rfl); (focus ((try simp only [push_cast, seval, hpa, hpb, hl]) <;> exact sT))) | ((first | apply Run.nil | apply Wp.skip); dsimp only [sQ, tQ, bQ]) | (apply Wp.run; (dsimp only [List.map] <;> exact rfl); exact rfl) | (apply Wp.exit; dsimp only [sQ, tQ, bQ]; simp only [reduceIte]))
          (apply Wp.ret; (try dsimp only [sQ, tQ, bQ]); apply leave0; exact rfl; (simp only [push_cast, seval, hpa, hpb, hl] <;> (try simp (disch := omega) only [wI, wU, wC]) <;> exact rfl); all_goals (try simp only [push_cast, seval, hpa, hpb, hl]); (try rfl))
        · intro h4
          simp only [decide_eq_false_iff_not] at h4
          rw [if_neg h4]
          repeat (first | apply Wp.seq | apply Wp.block | (apply Run.next; (simp only [push_cast, seval, hpa, hpb, hl] <;> (try simp (disch := omega) only [wI, wU, wC]) <;> exact rfl); (focus ((try simp only [push_cast, seval, hpa, hpb, hl]) <;> exact sT))) | ((first | apply Run.nil | apply Wp.skip); dsimp only [sQ, tQ, bQ]) | (apply Wp.run; (dsimp only [List.map] <;> exact rfl); exact rfl) | (apply Wp.exit; dsimp only [sQ, tQ, bQ]; simp only [reduceIte]))
          (apply Wp.ret; (try dsimp only [sQ, tQ, bQ]); apply leave0; exact rfl; (simp only [push_cast, seval, hpa, hpb, hl] <;> (try simp (disch := omega) only [wI, wU, wC]) <;> exact rfl); all_goals (try simp only [push_cast, seval, hpa, hpb, hl]); (try rfl))
end Go.Proofs.Try
