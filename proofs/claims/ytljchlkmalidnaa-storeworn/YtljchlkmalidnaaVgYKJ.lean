/- A part of the proof of StoreWorn: contracts of functions, with plain laws that they need. -/
import Derived.Test.YtljchlkmalidnaaVgEd
import Derived.Test.YtljchlkmalidnaaVgT
import Derived.Test.YtljchlkmalidnaaVgNl
import Derived.Test.YtljchlkmalidnaaVgY6J
set_option linter.all false
set_option maxHeartbeats 8000000
namespace Go.Proofs.Try
open Go.Vg

/-! stores that the statements do not try -/
theorem any_yes {n i : Nat} {p : Nat → Bool} (h : i < n) (hp : p i = true) : (List.range n).any p = true := List.any_eq_true.2 ⟨i, List.mem_range.2 h, hp⟩
theorem any_no {n : Nat} {p : Nat → Bool} (h : ∀ i, i < n → p i = false) : (List.range n).any p = false := List.any_eq_false.2 fun i hi => by rw [h i (List.mem_range.1 hi)]; simp
def lgK (ks : List St) (i : Nat) : Bool := decide (i < 20) && (decide (4 < (ks.getD i st0).items) && decide ((ks.getD i st0).items ≤ 8))
def lgS (ks : List St) (ls : List Ln) : Bool := (decide (6 < (ls.length : Int)) && decide ((ls.length : Int) ≤ 20)) || (List.range ks.length).any (lgK ks)
theorem large_pure (ks : List St) (ls : List Ln) (hk : ks.length ≤ 9223372036854775807) (hl : ls.length ≤ 9223372036854775807) : Pure Try.prog 15 [storA ks ls] (.bool (lgS ks ls)) := by
  unfold lgS
  by_cases h1 : 6 < (ls.length : Int) ∧ (ls.length : Int) ≤ 20
  · have e1 : decide (6 < (ls.length : Int)) = true := decide_eq_true h1.1
    have e2 : decide ((ls.length : Int) ≤ 20) = true := decide_eq_true h1.2
    (refine Spec.of_body Try.func15 rfl (by rw [Try.ntmps15]; simp) 0 (by simp) ?_; rw [Try.results15, Try.ntmps15]; simp only [entry, zipArgs, Nat.reduceAdd])
    repeat (first | apply Wp.seq | apply Wp.block | (apply Run.next; (simp only [push_cast, seval, e1, e2] <;> (try simp (disch := omega) only [wI, wU, wC]) <;> exact rfl); (focus ((try simp only [push_cast, seval, e1, e2]) <;> exact sT))) | ((first | apply Run.nil | apply Wp.skip); dsimp only [sQ, tQ, bQ]) | (apply Wp.run; (dsimp only [List.map] <;> exact rfl); exact rfl) | (apply Wp.exit; dsimp only [sQ, tQ, bQ]; simp only [reduceIte]) | (apply Run.gtrue; (simp only [push_cast, seval, e1, e2] <;> (try simp (disch := omega) only [wI, wU, wC]) <;> exact rfl); (simp only [push_cast, seval, e1, e2] <;> (try simp (disch := omega) only [wI, wU, wC]) <;> exact rfl)) | (apply Run.gfalse (.bool false); (simp only [push_cast, seval, e1, e2] <;> (try simp (disch := omega) only [wI, wU, wC]) <;> exact rfl); dsimp only [S.put, optG]) | (apply Wp.condT; (simp only [push_cast, seval, e1, e2] <;> (try simp (disch := omega) only [wI, wU, wC]) <;> exact rfl)) | (apply Wp.condF; (simp only [push_cast, seval, e1, e2] <;> (try simp (disch := omega) only [wI, wU, wC]) <;> exact rfl)))
    (apply Wp.ret; (try dsimp only [sQ, tQ, bQ]); apply leave0; exact rfl; (simp only [push_cast, seval, e1, e2] <;> (try simp (disch := omega) only [wI, wU, wC]) <;> exact rfl); all_goals (try simp only [push_cast, seval, e1, e2]); (try rfl))
  · have e1 : (decide (6 < (ls.length : Int)) && decide ((ls.length : Int) ≤ 20)) = false := by
      rw [← Bool.not_eq_true, Bool.and_eq_true, decide_eq_true_eq, decide_eq_true_eq]; exact h1
    rw [e1, Bool.false_or]
    have hyes := fun i (h : i < ks.length) => any_yes (p := lgK ks) h
    have hno := any_no (n := ks.length) (p := lgK ks)
    have hlk : ∀ i, lgK ks i = (decide (i < 20) && (decide (4 < (ks.getD i st0).items) && decide ((ks.getD i st0).items ≤ 8))) := fun _ => rfl
    generalize (List.range ks.length).any (lgK ks) = g at hyes hno
    generalize lgK ks = p at hlk hyes hno
    (refine Spec.of_body Try.func15 rfl (by rw [Try.ntmps15]; simp) 0 (by simp) ?_; rw [Try.results15, Try.ntmps15]; simp only [entry, zipArgs, Nat.reduceAdd])
    repeat (first | apply Wp.seq | apply Wp.block | (apply Run.next; (simp only [push_cast, seval, e1] <;> (try simp (disch := omega) only [wI, wU, wC]) <;> exact rfl); (focus ((try simp only [push_cast, seval, e1]) <;> exact sT))) | ((first | apply Run.nil | apply Wp.skip); dsimp only [sQ, tQ, bQ]) | (apply Wp.run; (dsimp only [List.map] <;> exact rfl); exact rfl) | (apply Wp.exit; dsimp only [sQ, tQ, bQ]; simp only [reduceIte]) | (apply Run.gtrue; (simp only [push_cast, seval, e1] <;> (try simp (disch := omega) only [wI, wU, wC]) <;> exact rfl); (simp only [push_cast, seval, e1] <;> (try simp (disch := omega) only [wI, wU, wC]) <;> exact rfl)) | (apply Run.gfalse (.bool false); (simp only [push_cast, seval, e1] <;> (try simp (disch := omega) only [wI, wU, wC]) <;> exact rfl); dsimp only [S.put, optG]) | (apply Wp.condT; (simp only [push_cast, seval, e1] <;> (try simp (disch := omega) only [wI, wU, wC]) <;> exact rfl)) | (apply Wp.condF; (simp only [push_cast, seval, e1] <;> (try simp (disch := omega) only [wI, wU, wC]) <;> exact rfl)))
    refine Wp.loop (fun (k : Nat) => { t := [(1, .optr 0 0 0 0), (3, .int k)], m := [⟨0, .row 2 [storA ks ls]⟩], n := 41 }) (fun k => k ≤ ks.length ∧ k ≤ 20 ∧ ∀ i, i < k → p i = false) (fun k => ks.length - k) 0 ?_ ?_ ?_
    · (refine Le.of ?_ ?_ rfl rfl <;> (try simp only [push_cast, seval, e1]) <;> (try (with_reducible rfl)))
    · simp
    · rintro k ⟨hk1, hk3, hk2⟩
      have hye := hyes k
      have hlk1 := hlk k
      repeat (first | apply Wp.seq | apply Wp.block | (apply Run.next; (simp only [push_cast, seval, e1] <;> (try simp (disch := omega) only [wI, wU, wC]) <;> exact rfl); (focus ((try simp only [push_cast, seval, e1]) <;> exact sT))) | ((first | apply Run.nil | apply Wp.skip); dsimp only [sQ, tQ, bQ]) | (apply Wp.run; (dsimp only [List.map] <;> exact rfl); exact rfl) | (apply Wp.exit; dsimp only [sQ, tQ, bQ]; simp only [reduceIte]))
      (apply Wp.cond; (simp only [push_cast, seval, e1] <;> (try simp (disch := omega) only [wI, wU, wC]) <;> exact rfl))
      · intro hc
        simp only [Bool.and_eq_true, decide_eq_true_eq, Int.ofNat_lt] at hc
        specialize hye hc.1
        rw [decide_eq_true (show k < 20 by omega), Bool.true_and] at hlk1
        generalize hy : ks.getD k st0 = y at hlk1
        repeat (first | apply Wp.seq | apply Wp.block | (apply Run.next; (simp only [push_cast, seval, e1, hy] <;> (try simp (disch := omega) only [wI, wU, wC]) <;> exact rfl); (focus ((try simp only [push_cast, seval, e1, hy]) <;> exact sT))) | ((first | apply Run.nil | apply Wp.skip); dsimp only [sQ, tQ, bQ]) | (apply Wp.run; (dsimp only [List.map] <;> exact rfl); exact rfl) | (apply Wp.exit; dsimp only [sQ, tQ, bQ]; simp only [reduceIte]))
        (apply Wp.cond; (simp only [push_cast, seval, e1, hy] <;> (try simp (disch := omega) only [wI, wU, wC]) <;> exact rfl))
        · intro h2
          have := hye (by rw [hlk1]; exact h2)
          subst this
          repeat (first | apply Wp.seq | apply Wp.block | (apply Run.next; (simp only [push_cast, seval, e1, hy] <;> (try simp (disch := omega) only [wI, wU, wC]) <;> exact rfl); (focus ((try simp only [push_cast, seval, e1, hy]) <;> exact sT))) | ((first | apply Run.nil | apply Wp.skip); dsimp only [sQ, tQ, bQ]) | (apply Wp.run; (dsimp only [List.map] <;> exact rfl); exact rfl) | (apply Wp.exit; dsimp only [sQ, tQ, bQ]; simp only [reduceIte]))
          (apply Wp.ret; (try dsimp only [sQ, tQ, bQ]); apply leave0; exact rfl; (simp only [push_cast, seval, e1, hy] <;> (try simp (disch := omega) only [wI, wU, wC]) <;> exact rfl); all_goals (try simp only [push_cast, seval, e1, hy]); (try rfl))
        · intro h2
          repeat (first | apply Wp.seq | apply Wp.block | (apply Run.next; (simp only [push_cast, seval, e1, hy] <;> (try simp (disch := omega) only [wI, wU, wC]) <;> exact rfl); (focus ((try simp only [push_cast, seval, e1, hy]) <;> exact sT))) | ((first | apply Run.nil | apply Wp.skip); dsimp only [sQ, tQ, bQ]) | (apply Wp.run; (dsimp only [List.map] <;> exact rfl); exact rfl) | (apply Wp.exit; dsimp only [sQ, tQ, bQ]; simp only [reduceIte]))
          refine ⟨k + 1, ?_, ⟨by omega, by omega, fun i hi => ?_⟩, by omega⟩
          · (refine Le.of ?_ ?_ rfl rfl <;> (try simp only [push_cast, seval, e1, hy]) <;> (try (with_reducible rfl)))
          · by_cases hik : i = k
            · rw [hik, hlk1]; exact h2
            · exact hk2 i (by omega)
      · intro hc
        have hall : ∀ i, i < ks.length → p i = false := fun i hi => by
          by_cases hik : i < k
          · exact hk2 i hik
          · simp only [Bool.and_eq_false_iff, decide_eq_false_iff_not] at hc
            rw [hlk i, decide_eq_false (show ¬ i < 20 by omega)]; rfl
        have := hno hall
        subst this
        repeat (first | apply Wp.seq | apply Wp.block | (apply Run.next; (simp only [push_cast, seval, e1] <;> (try simp (disch := omega) only [wI, wU, wC]) <;> exact rfl); (focus ((try simp only [push_cast, seval, e1]) <;> exact sT))) | ((first | apply Run.nil | apply Wp.skip); dsimp only [sQ, tQ, bQ]) | (apply Wp.run; (dsimp only [List.map] <;> exact rfl); exact rfl) | (apply Wp.exit; dsimp only [sQ, tQ, bQ]; simp only [reduceIte]))
        (apply Wp.ret; (try dsimp only [sQ, tQ, bQ]); apply leave0; exact rfl; (simp only [push_cast, seval, e1] <;> (try simp (disch := omega) only [wI, wU, wC]) <;> exact rfl); all_goals (try simp only [push_cast, seval, e1]); (try rfl))
end Go.Proofs.Try
namespace Go.Proofs.Try
open Go.Vg
theorem named : Named Try.prog 130 := namedB_ok (by kernel_rfl)
theorem works_run : xF Try.prog 130 (xC Try.prog 130 100000) 16 [] [] = some (.bool true, []) := by kernel_rfl
theorem works_pure : Pure Try.prog 16 [] (.bool true) := xF_spec named mixed works_run
end Go.Proofs.Try
set_option maxHeartbeats 8000000
namespace Go.Proofs.Try
open Go.Vg

/-! Peak, Need and Buy -/
end Go.Proofs.Try
set_option maxHeartbeats 8000000
namespace Go.Proofs.Try
open Go.Vg

/-! what Plan does for each kind -/
abbrev refS (ks : List St) (ls : List Ln) : AV := .ref [.lst 2 (ks.map stA), .lst 5 (ls.map lnA)] 0
def srK (ks : List St) (ls : List Ln) (k : Nat) : Option (List Int) := srch (fun _ => (ks.getD k st0).items.toNat) (okK ls (ks.getD k st0).life (loanP ls (k : Int) ls.length)) (loanP ls (k : Int) ls.length).length []
theorem planDo_spec {ks : List St} {ls : List Ln} (hv : SV ks ls) {k : Nat} (hk : k < ks.length) {F : Mem} {N : Nat} (hF : F.length = N) (e0 e4 : Ent) :
    Go.Vg.Spec Try.prog 56 [.optr (N + 3) 1 0 0, .int k, refS ks ls] (F ++ blk N ks ls e0 e4 (ks.getD k st0).life (loanP ls (k : Int) ls.length) 0 [] (List.replicate (ks.getD k st0).items.toNat 0) (T0 (ks.getD k st0).items.toNat) [])
      (FsQ F [] N ks ls e0 e4 (ks.getD k st0).life (loanP ls (k : Int) ls.length) (ks.getD k st0).items.toNat [] (srK ks ls k)) := by
  have hl20 := hv.l20
  have hst := hv.st k hk
  have hps := possible_pure hv (k : Int) (ks.getD k st0).items (by omega) (by omega)
  rw [psV_ex hv (by omega) (by omega), Int.toNat_natCast] at hps
  have hLl := loanP_len ls (k : Int) ls.length
  have hLi := loanP_in ls (k : Int)
  have hfs := first_spec hv (ks.getD k st0).life hLi (by omega) (n := (ks.getD k st0).items.toNat) (by omega) (loanP ls (k : Int) ls.length).length (F := F) (G := []) (N := N) hF (e0 := e0) (e4 := e4) (vi := 0) (I := []) (T := T0 (ks.getD k st0).items.toNat) (by simp) (by simp) (fun a b _ h => by simp at h) (tO_nil (loanP ls (k : Int) ls.length) (ks.getD k st0).items.toNat)
  have hw0 := wO_nil ls (loanP ls (k : Int) ls.length) (ks.getD k st0).items.toNat
  have hT0 := tO_nil (loanP ls (k : Int) ls.length) (ks.getD k st0).items.toNat
  have hps : Pure Try.prog 57 [storA ks ls, .int k, .int (ks.getD k st0).items.toNat] (.bool (srK ks ls k).isSome) := by
    rw [Int.toNat_of_nonneg (by omega)]; exact hps
  have hfs : Go.Vg.Spec Try.prog 58 [.optr (N + 3) 1 0 0] (F ++ blk N ks ls e0 e4 (ks.getD k st0).life (loanP ls (k : Int) ls.length) 0 [] (List.replicate (ks.getD k st0).items.toNat 0) (T0 (ks.getD k st0).items.toNat) []) (FsQ F [] N ks ls e0 e4 (ks.getD k st0).life (loanP ls (k : Int) ls.length) (ks.getD k st0).items.toNat [] (srK ks ls k)) := by
    rw [hw0] at hfs; exact hfs
  have hQn : srK ks ls k = none → FsQ F [] N ks ls e0 e4 (ks.getD k st0).life (loanP ls (k : Int) ls.length) (ks.getD k st0).items.toNat [] (srK ks ls k) (.bool false) (F ++ blk N ks ls e0 e4 (ks.getD k st0).life (loanP ls (k : Int) ls.length) 0 [] (List.replicate (ks.getD k st0).items.toNat 0) (T0 (ks.getD k st0).items.toNat) []) := fun h => ⟨0, _, .inr ⟨h, rfl, hT0, by rw [hw0]⟩⟩
  have hQx : ∀ {x m'}, FsQ F [] N ks ls e0 e4 (ks.getD k st0).life (loanP ls (k : Int) ls.length) (ks.getD k st0).items.toNat [] (srK ks ls k) x m' → x = .bool (srK ks ls k).isSome := by
    rintro x m' ⟨vi', T', ⟨J, h1, h2, _⟩ | ⟨h1, h2, _⟩⟩
    · rw [h1, h2]; rfl
    · rw [h1, h2]; rfl
  generalize FsQ F [] N ks ls e0 e4 (ks.getD k st0).life (loanP ls (k : Int) ls.length) (ks.getD k st0).items.toNat [] (srK ks ls k) = Q at hfs hQn hQx
  generalize srK ks ls k = s at hps hQn hQx
  generalize hn : (ks.getD k st0).items.toNat = n at *
  generalize (ks.getD k st0).life = life at *
  have hTl : (T0 n).length = n := by simp [T0]
  generalize hTT : T0 n = T at *
  cases s with
  | none =>
    have hQn := hQn rfl
    simp only [Option.isSome_none] at hps
    (refine Spec.of_bodyA Try.func56 rfl (by rw [Try.ntmps56]; simp) ?_; rw [Try.results56, Try.ntmps56]; simp only [entry, zipArgs, Nat.reduceAdd])
    repeat (first | apply Wp.seq | apply Wp.block | (apply Run.next; (simp only [push_cast, seval, getF hF, getF0 hF, get7, lentR_len, hTl] <;> (try simp (disch := omega) only [wI, wU, wC]) <;> exact rfl); (focus ((try simp only [push_cast, seval, getF hF, getF0 hF, get7, lentR_len, hTl]) <;> exact sT))) | ((first | apply Run.nil | apply Wp.skip); dsimp only [sQ, tQ, bQ]) | (apply Wp.run; (dsimp only [List.map] <;> exact rfl); exact rfl) | (apply Wp.exit; dsimp only [sQ, tQ, bQ]; simp only [reduceIte]))
    (apply Wp.runD 8 mixed; (dsimp only [List.map] <;> exact rfl); exact rfl; kernel_rfl; (dsimp only [List.take] <;> exact rfl); (dsimp only [List.drop] <;> exact rfl); (((repeat (apply Abn.next; (simp only [push_cast, seval, getF hF, getF0 hF, get7, lentR_len, hTl] <;> (try simp (disch := omega) only [wI, wU, wC]) <;> exact rfl); (focus ((try simp only [push_cast, seval, getF hF, getF0 hF, get7, lentR_len, hTl]) <;> exact sT)))); (apply Abn.pureP; (simp only [push_cast, seval, getF hF, getF0 hF, get7, lentR_len, hTl] <;> (try simp (disch := omega) only [wI, wU, wC]) <;> exact rfl); (exact (Enters.of Try.func57 rfl rfl)); (exact hps); (focus (simp only [push_cast, seval, getF hF, getF0 hF, get7, lentR_len, hTl] <;> first | trivial | assumption | (refine ⟨?_, ?_⟩ <;> assumption) | (simp; done))); (try dsimp only [putA, optG])); (repeat (apply Abn.next; (simp only [push_cast, seval, getF hF, getF0 hF, get7, lentR_len, hTl] <;> (try simp (disch := omega) only [wI, wU, wC]) <;> exact rfl); (focus ((try simp only [push_cast, seval, getF hF, getF0 hF, get7, lentR_len, hTl]) <;> exact sT))))); exact Abn.nil))
    repeat (first | apply Wp.seq | apply Wp.block | (apply Run.next; (simp only [push_cast, seval, getF hF, getF0 hF, get7, lentR_len, hTl] <;> (try simp (disch := omega) only [wI, wU, wC]) <;> exact rfl); (focus ((try simp only [push_cast, seval, getF hF, getF0 hF, get7, lentR_len, hTl]) <;> exact sT))) | ((first | apply Run.nil | apply Wp.skip); dsimp only [sQ, tQ, bQ]) | (apply Wp.run; (dsimp only [List.map] <;> exact rfl); exact rfl) | (apply Wp.exit; dsimp only [sQ, tQ, bQ]; simp only [reduceIte]) | (apply Run.gtrue; (simp only [push_cast, seval, getF hF, getF0 hF, get7, lentR_len, hTl] <;> (try simp (disch := omega) only [wI, wU, wC]) <;> exact rfl); (simp only [push_cast, seval, getF hF, getF0 hF, get7, lentR_len, hTl] <;> (try simp (disch := omega) only [wI, wU, wC]) <;> exact rfl)) | (apply Run.gfalse (.bool false); (simp only [push_cast, seval, getF hF, getF0 hF, get7, lentR_len, hTl] <;> (try simp (disch := omega) only [wI, wU, wC]) <;> exact rfl); dsimp only [S.put, optG]) | (apply Wp.condT; (simp only [push_cast, seval, getF hF, getF0 hF, get7, lentR_len, hTl] <;> (try simp (disch := omega) only [wI, wU, wC]) <;> exact rfl)) | (apply Wp.condF; (simp only [push_cast, seval, getF hF, getF0 hF, get7, lentR_len, hTl] <;> (try simp (disch := omega) only [wI, wU, wC]) <;> exact rfl)))
    (apply Wp.ret; (try dsimp only [sQ, tQ, bQ]); apply leaveA; exact rfl; (simp only [push_cast, seval, getF hF, getF0 hF, get7, lentR_len, hTl] <;> (try simp (disch := omega) only [wI, wU, wC]) <;> exact rfl); (focus (first | (simp only [push_cast, seval, getF hF, getF0 hF, get7, lentR_len, hTl]; done) | trivial | (simp only [push_cast, seval, getF hF, getF0 hF, get7, lentR_len, hTl]; trivial) | (simp; done))); (try simp only [push_cast, seval, getF hF, getF0 hF, get7, lentR_len, hTl]))
    exact hQn
  | some J =>
    simp only [Option.isSome_some] at hps hQx
    (refine Spec.of_bodyA Try.func56 rfl (by rw [Try.ntmps56]; simp) ?_; rw [Try.results56, Try.ntmps56]; simp only [entry, zipArgs, Nat.reduceAdd])
    repeat (first | apply Wp.seq | apply Wp.block | (apply Run.next; (simp only [push_cast, seval, getF hF, getF0 hF, get7, lentR_len, hTl] <;> (try simp (disch := omega) only [wI, wU, wC]) <;> exact rfl); (focus ((try simp only [push_cast, seval, getF hF, getF0 hF, get7, lentR_len, hTl]) <;> exact sT))) | ((first | apply Run.nil | apply Wp.skip); dsimp only [sQ, tQ, bQ]) | (apply Wp.run; (dsimp only [List.map] <;> exact rfl); exact rfl) | (apply Wp.exit; dsimp only [sQ, tQ, bQ]; simp only [reduceIte]))
    (apply Wp.runD 8 mixed; (dsimp only [List.map] <;> exact rfl); exact rfl; kernel_rfl; (dsimp only [List.take] <;> exact rfl); (dsimp only [List.drop] <;> exact rfl); (((repeat (apply Abn.next; (simp only [push_cast, seval, getF hF, getF0 hF, get7, lentR_len, hTl] <;> (try simp (disch := omega) only [wI, wU, wC]) <;> exact rfl); (focus ((try simp only [push_cast, seval, getF hF, getF0 hF, get7, lentR_len, hTl]) <;> exact sT)))); (apply Abn.pureP; (simp only [push_cast, seval, getF hF, getF0 hF, get7, lentR_len, hTl] <;> (try simp (disch := omega) only [wI, wU, wC]) <;> exact rfl); (exact (Enters.of Try.func57 rfl rfl)); (exact hps); (focus (simp only [push_cast, seval, getF hF, getF0 hF, get7, lentR_len, hTl] <;> first | trivial | assumption | (refine ⟨?_, ?_⟩ <;> assumption) | (simp; done))); (try dsimp only [putA, optG])); (repeat (apply Abn.next; (simp only [push_cast, seval, getF hF, getF0 hF, get7, lentR_len, hTl] <;> (try simp (disch := omega) only [wI, wU, wC]) <;> exact rfl); (focus ((try simp only [push_cast, seval, getF hF, getF0 hF, get7, lentR_len, hTl]) <;> exact sT))))); exact Abn.nil))
    repeat (first | apply Wp.seq | apply Wp.block | (apply Run.next; (simp only [push_cast, seval, getF hF, getF0 hF, get7, lentR_len, hTl] <;> (try simp (disch := omega) only [wI, wU, wC]) <;> exact rfl); (focus ((try simp only [push_cast, seval, getF hF, getF0 hF, get7, lentR_len, hTl]) <;> exact sT))) | ((first | apply Run.nil | apply Wp.skip); dsimp only [sQ, tQ, bQ]) | (apply Wp.run; (dsimp only [List.map] <;> exact rfl); exact rfl) | (apply Wp.exit; dsimp only [sQ, tQ, bQ]; simp only [reduceIte]) | (apply Run.gtrue; (simp only [push_cast, seval, getF hF, getF0 hF, get7, lentR_len, hTl] <;> (try simp (disch := omega) only [wI, wU, wC]) <;> exact rfl); (simp only [push_cast, seval, getF hF, getF0 hF, get7, lentR_len, hTl] <;> (try simp (disch := omega) only [wI, wU, wC]) <;> exact rfl)) | (apply Run.gfalse (.bool false); (simp only [push_cast, seval, getF hF, getF0 hF, get7, lentR_len, hTl] <;> (try simp (disch := omega) only [wI, wU, wC]) <;> exact rfl); dsimp only [S.put, optG]) | (apply Wp.condT; (simp only [push_cast, seval, getF hF, getF0 hF, get7, lentR_len, hTl] <;> (try simp (disch := omega) only [wI, wU, wC]) <;> exact rfl)) | (apply Wp.condF; (simp only [push_cast, seval, getF hF, getF0 hF, get7, lentR_len, hTl] <;> (try simp (disch := omega) only [wI, wU, wC]) <;> exact rfl)))
    apply Run.spec (he := Enters.of Try.func58 rfl rfl) (hc := hfs)
    focus exact rfl
    focus (simp only [push_cast, seval, getF hF, getF0 hF, get7, lentR_len, hTl] <;> exact rfl)
    focus (simp only [push_cast, seval, getF hF, getF0 hF, get7, lentR_len, hTl] <;> (try simp (disch := omega) only [wI, wU, wC]) <;> exact rfl)
    intro x' m' hq
    obtain rfl := hQx hq
    dsimp only [S.put, optG]
    repeat (first | apply Wp.seq | apply Wp.block | (apply Run.next; (simp only [push_cast, seval, getF hF, getF0 hF, get7, lentR_len, hTl] <;> (try simp (disch := omega) only [wI, wU, wC]) <;> exact rfl); (focus ((try simp only [push_cast, seval, getF hF, getF0 hF, get7, lentR_len, hTl]) <;> exact sT))) | ((first | apply Run.nil | apply Wp.skip); dsimp only [sQ, tQ, bQ]) | (apply Wp.run; (dsimp only [List.map] <;> exact rfl); exact rfl) | (apply Wp.exit; dsimp only [sQ, tQ, bQ]; simp only [reduceIte]) | (apply Run.gtrue; (simp only [push_cast, seval, getF hF, getF0 hF, get7, lentR_len, hTl] <;> (try simp (disch := omega) only [wI, wU, wC]) <;> exact rfl); (simp only [push_cast, seval, getF hF, getF0 hF, get7, lentR_len, hTl] <;> (try simp (disch := omega) only [wI, wU, wC]) <;> exact rfl)) | (apply Run.gfalse (.bool false); (simp only [push_cast, seval, getF hF, getF0 hF, get7, lentR_len, hTl] <;> (try simp (disch := omega) only [wI, wU, wC]) <;> exact rfl); dsimp only [S.put, optG]) | (apply Wp.condT; (simp only [push_cast, seval, getF hF, getF0 hF, get7, lentR_len, hTl] <;> (try simp (disch := omega) only [wI, wU, wC]) <;> exact rfl)) | (apply Wp.condF; (simp only [push_cast, seval, getF hF, getF0 hF, get7, lentR_len, hTl] <;> (try simp (disch := omega) only [wI, wU, wC]) <;> exact rfl)))
    (apply Wp.ret; (try dsimp only [sQ, tQ, bQ]); apply leaveA; exact rfl; (simp only [push_cast, seval, getF hF, getF0 hF, get7, lentR_len, hTl] <;> (try simp (disch := omega) only [wI, wU, wC]) <;> exact rfl); (focus (first | (simp only [push_cast, seval, getF hF, getF0 hF, get7, lentR_len, hTl]; done) | trivial | (simp only [push_cast, seval, getF hF, getF0 hF, get7, lentR_len, hTl]; trivial) | (simp; done))); (try simp only [push_cast, seval, getF hF, getF0 hF, get7, lentR_len, hTl]))
    exact hq
end Go.Proofs.Try
set_option maxHeartbeats 8000000
namespace Go.Proofs.Try
open Go.Vg

/-! the plan, kind by kind -/
/-- the items of the kinds before k, and of the first q loans of the kind k -/
def plQ (ls : List Ln) (f : Nat → List Int) (k q : Nat) : List Int := (List.range ls.length).map fun i => if (ls.getD i ln0).kind < (k : Int) ∨ ((ls.getD i ln0).kind = (k : Int) ∧ plc ls (ls.getD i ln0).kind i < q) then (f (ls.getD i ln0).kind.toNat).getD (plc ls (ls.getD i ln0).kind i) 0 else 0
theorem plQ_len (ls : List Ln) (f : Nat → List Int) (k q : Nat) : (plQ ls f k q).length = ls.length := by simp [plQ]
theorem plQ_zero {ks : List St} {ls : List Ln} (hv : SV ks ls) (f : Nat → List Int) : plQ ls f 0 0 = List.replicate ls.length 0 := by
  apply List.ext_getElem (by simp [plQ])
  intro i h1 h2
  have hi : i < ls.length := by simpa [plQ] using h1
  have := (hv.ln i hi).1
  simp only [plQ, List.getElem_map, List.getElem_range, List.getElem_replicate]
  rw [if_neg (by omega)]
theorem plQ_next (ls : List Ln) (f : Nat → List Int) (k : Nat) : plQ ls f k (loanP ls (k : Int) ls.length).length = plQ ls f (k + 1) 0 := by
  apply List.ext_getElem (by simp [plQ])
  intro i h1 h2
  have hi : i < ls.length := by simpa [plQ] using h1
  simp only [plQ, List.getElem_map, List.getElem_range]
  by_cases hk : (ls.getD i ln0).kind = (k : Int)
  · have := (loanP_at (N := ls.length) hi hk).1
    rw [hk, if_pos (by right; exact ⟨rfl, this⟩), if_pos (by left; omega)]
  · by_cases hk2 : (ls.getD i ln0).kind < (k : Int)
    · rw [if_pos (.inl hk2), if_pos (by left; omega)]
    · rw [if_neg (by omega), if_neg (by omega)]
theorem plQ_set {ls : List Ln} (f : Nat → List Int) {k q : Nat} (hq : q < (loanP ls (k : Int) ls.length).length) : plQ ls f k (q + 1) = (plQ ls f k q).set ((loanP ls (k : Int) ls.length).getD q 0).toNat ((f k).getD q 0) := by
  obtain ⟨n, h1, h2, h3, h4⟩ := plc_at hq
  rw [h3, Int.toNat_natCast]
  apply List.ext_getElem (by simp [plQ])
  intro i h5 h6
  have hi : i < ls.length := by simpa [plQ] using h5
  rw [List.getElem_set]
  simp only [plQ, List.getElem_map, List.getElem_range]
  by_cases hin : n = i
  · subst hin
    rw [if_pos rfl, if_pos (by right; rw [h2]; exact ⟨rfl, by omega⟩), h2, h4, Int.toNat_natCast]
  · rw [if_neg hin]
    by_cases hk : (ls.getD i ln0).kind = (k : Int)
    · have hne : plc ls (k : Int) i ≠ q := fun he => by
        have h7 := (loanP_at (N := ls.length) hi hk).2
        rw [he, h3] at h7
        omega
      rw [hk]
      by_cases hp : plc ls (k : Int) i < q
      · rw [if_pos (by right; exact ⟨rfl, by omega⟩), if_pos (by right; exact ⟨rfl, hp⟩)]
      · rw [if_neg (by omega), if_neg (by omega)]
    · by_cases hk2 : (ls.getD i ln0).kind < (k : Int)
      · rw [if_pos (.inl hk2), if_pos (.inl hk2)]
      · rw [if_neg (by omega), if_neg (by omega)]
theorem plQ_end {ks : List St} {ls : List Ln} (hv : SV ks ls) (f : Nat → List Int) : plQ ls f ks.length 0 = glue ls f ls.length := by
  apply List.ext_getElem (by simp [plQ, glue])
  intro i h1 h2
  have hi : i < ls.length := by simpa [plQ] using h1
  have := (hv.ln i hi).1
  simp only [plQ, glue, List.getElem_map, List.getElem_range]
  rw [if_pos (by left; omega)]
/-- the memory in front of the benches -/
def eF (e0 e2 : Ent) (G : Mem) (r : List Int) : Mem := e0 :: ⟨0, .row 1 (r.map AV.int)⟩ :: e2 :: G
theorem eF_len (e0 e2 : Ent) (G : Mem) (r : List Int) : (eF e0 e2 G r).length = G.length + 3 := rfl
theorem eF_0 (e0 e2 : Ent) (G : Mem) (r : List Int) : (eF e0 e2 G r)[0]? = some e0 := rfl
theorem eF_1 (e0 e2 : Ent) (G : Mem) (r : List Int) : (eF e0 e2 G r)[1]? = some ⟨0, .row 1 (r.map AV.int)⟩ := rfl
theorem eF_2 (e0 e2 : Ent) (G : Mem) (r : List Int) : (eF e0 e2 G r)[2]? = some e2 := rfl
theorem eF_s2 (e0 e2 e : Ent) (G : Mem) (r : List Int) : (eF e0 e2 G r).set 2 e = eF e0 e G r := rfl
theorem eFa_0 (e0 e2 : Ent) (G B : Mem) (r : List Int) : (eF e0 e2 G r ++ B)[0]? = some e0 := rfl
theorem eFa_1 (e0 e2 : Ent) (G B : Mem) (r : List Int) : (eF e0 e2 G r ++ B)[1]? = some ⟨0, .row 1 (r.map AV.int)⟩ := rfl
theorem eFa_2 (e0 e2 : Ent) (G B : Mem) (r : List Int) : (eF e0 e2 G r ++ B)[2]? = some e2 := rfl
theorem eF_app (e0 e2 : Ent) (G B : Mem) (r : List Int) : eF e0 e2 G r ++ B = eF e0 e2 (G ++ B) r := rfl
def EachQ (ks : List St) (ls : List Ln) (x : AV) (m' : Mem) : Prop := m' = [] ∧ (((∃ k, k < ks.length ∧ srK ks ls k = none) ∧ x = .nil) ∨ ((∀ k, k < ks.length → (srK ks ls k).isSome = true) ∧ ((ls ≠ [] ∧ x = .ints (glue ls (fun k => (srK ks ls k).getD []) ls.length)) ∨ (ls = [] ∧ ∃ A, x = .non A))))
theorem eachP_spec {ks : List St} {ls : List Ln} (hv : SV ks ls) : Go.Vg.Spec Try.prog 55 [storA ks ls, .clo 56 [refS ks ls]] [] (EachQ ks ls) := by
  have hl20 := hv.l20
  have hk8 := hv.k8
  have hQn : ∀ {k}, k < ks.length → srK ks ls k = none → EachQ ks ls .nil [] := fun hk h => ⟨rfl, .inl ⟨⟨_, hk, h⟩, rfl⟩⟩
  by_cases hls : ls = []
  · subst hls
    have hQs : ∀ A, (∀ k, k < ks.length → (srK ks [] k).isSome = true) → EachQ ks [] (.non A) [] := fun A h => ⟨rfl, .inr ⟨h, .inr ⟨rfl, A, rfl⟩⟩⟩
    generalize EachQ ks [] = Q at hQn hQs
    (refine Spec.of_body Try.func55 rfl (by rw [Try.ntmps55]; simp) 0 (by simp) ?_; rw [Try.results55, Try.ntmps55]; simp only [entry, zipArgs, Nat.reduceAdd])
    repeat (first | apply Wp.seq | apply Wp.block)
    (apply Wp.run; (dsimp only [List.map] <;> exact rfl); exact rfl)
    (apply Run.next; (simp only [push_cast, seval] <;> (try simp (disch := omega) only [wI, wU, wC]) <;> exact rfl); (focus ((try simp only [push_cast, seval]) <;> exact sT)))
    repeat (first | apply Wp.seq | apply Wp.block | (apply Run.calm; exact rfl; (simp only [push_cast, seval] <;> (try simp (disch := omega) only [wI, wU, wC]) <;> exact rfl); (focus ((try simp only [push_cast, seval]) <;> exact sT))) | ((first | apply Run.nil | apply Wp.skip); dsimp only [sQ, tQ, bQ]) | (apply Wp.run; (dsimp only [List.map] <;> exact rfl); exact rfl) | (apply Wp.exit; dsimp only [sQ, tQ, bQ]; simp only [reduceIte]))
    refine Run.make0 (e := 3) (z := .int 0) (by simp only [push_cast, seval]) (by simp only [push_cast, seval]) (by simp only [push_cast, seval]) (by simp only [push_cast, seval]) (by simp only [push_cast, seval]) fun A => ?_
    have hQs := hQs A
    dsimp only [putA]
    repeat (first | apply Wp.seq | apply Wp.block | (apply Run.next; (simp only [push_cast, seval] <;> (try simp (disch := omega) only [wI, wU, wC]) <;> exact rfl); (focus ((try simp only [push_cast, seval]) <;> exact sT))) | ((first | apply Run.nil | apply Wp.skip); dsimp only [sQ, tQ, bQ]) | (apply Wp.run; (dsimp only [List.map] <;> exact rfl); exact rfl) | (apply Wp.exit; dsimp only [sQ, tQ, bQ]; simp only [reduceIte]))
    (refine Wp.vacs 2 ?_; (try simp only [List.replicate_succ, List.replicate_zero, List.cons_append, List.nil_append]))
    refine Wp.loop (fun (q : Nat × Nat × Kind × Mem) => { t := [(1, .clo 56 [refS ks []]), (2, .optr 0 0 0 0), (5, .non A), (16, .lst 2 (ks.map stA)), (17, .int ks.length), (18, .int q.1)], m := eF ⟨0, .row 2 [storA ks []]⟩ ⟨q.2.1, q.2.2.1⟩ q.2.2.2 [], n := 56 }) (fun q => q.1 ≤ ks.length ∧ ∀ k, k < q.1 → (srK ks [] k).isSome = true) (fun q => ks.length - q.1) (0, 0, .row 1 [], []) ?_ ?_ ?_
    · (refine Le.of ?_ ?_ rfl rfl <;> (try simp only [push_cast, seval]) <;> (try (with_reducible rfl)))
      all_goals rfl
    · simp
    · rintro ⟨k, v, kd, G⟩ ⟨hk1, hk2⟩
      simp only at hk1 hk2
      repeat (first | apply Wp.seq | apply Wp.block | (apply Run.calm; exact rfl; (simp only [push_cast, seval] <;> (try simp (disch := omega) only [wI, wU, wC]) <;> exact rfl); (focus ((try simp only [push_cast, seval]) <;> exact sT))) | ((first | apply Run.nil | apply Wp.skip); dsimp only [sQ, tQ, bQ]) | (apply Wp.run; (dsimp only [List.map] <;> exact rfl); exact rfl) | (apply Wp.exit; dsimp only [sQ, tQ, bQ]; simp only [reduceIte]))
      (apply Wp.cond; (simp only [push_cast, seval] <;> (try simp (disch := omega) only [wI, wU, wC]) <;> exact rfl))
      · intro hc
        simp only [decide_eq_true_eq, Int.ofNat_lt] at hc
        have hs := hv.st k hc
        have hnb := newBench_spec hv (k : Int) (ks.getD k st0).items (by omega) (by omega)
        rw [Int.toNat_natCast, show loanP ([] : List Ln) (k : Int) ([] : List Ln).length = [] from rfl] at hnb
        have hdo := fun (F : Mem) (N : Nat) (hF : F.length = N) (e4 : Ent) => planDo_spec hv hc hF ⟨0, .row 2 [storA ks []]⟩ e4
        rw [show loanP ([] : List Ln) (k : Int) ([] : List Ln).length = [] from rfl] at hdo
        generalize hy : ks.getD k st0 = y at hs hnb hdo
        repeat (first | apply Wp.seq | apply Wp.block | (apply Run.calm; exact rfl; (simp only [push_cast, seval, hy, eF_len, eF_0, eF_1, eF_2, eF_s2] <;> (try simp (disch := omega) only [wI, wU, wC]) <;> exact rfl); (focus ((try simp only [push_cast, seval, hy, eF_len, eF_0, eF_1, eF_2, eF_s2]) <;> exact sT))) | ((first | apply Run.nil | apply Wp.skip); dsimp only [sQ, tQ, bQ]) | (apply Wp.run; (dsimp only [List.map] <;> exact rfl); exact rfl) | (apply Wp.exit; dsimp only [sQ, tQ, bQ]; simp only [reduceIte]))
        (apply Run.alcAt 2; (simp only [push_cast, seval, hy, eF_len, eF_0, eF_1, eF_2, eF_s2] <;> (try simp (disch := omega) only [wI, wU, wC]) <;> exact rfl); (focus ((try simp only [push_cast, seval, hy, eF_len, eF_0, eF_1, eF_2, eF_s2]) <;> exact sT)); exact rfl; (try simp only [push_cast, seval, hy, eF_len, eF_0, eF_1, eF_2, eF_s2]))
        repeat (first | apply Wp.seq | apply Wp.block | (apply Run.calm; exact rfl; (simp only [push_cast, seval, hy, eF_len, eF_0, eF_1, eF_2, eF_s2] <;> (try simp (disch := omega) only [wI, wU, wC]) <;> exact rfl); (focus ((try simp only [push_cast, seval, hy, eF_len, eF_0, eF_1, eF_2, eF_s2]) <;> exact sT))) | ((first | apply Run.nil | apply Wp.skip); dsimp only [sQ, tQ, bQ]) | (apply Wp.run; (dsimp only [List.map] <;> exact rfl); exact rfl) | (apply Wp.exit; dsimp only [sQ, tQ, bQ]; simp only [reduceIte]))
        apply Run.fresh (he := Enters.of Try.func67 rfl rfl)
        focus (simp only [push_cast, seval, hy, eF_len, eF_0, eF_1, eF_2, eF_s2] <;> exact rfl)
        focus (simp only [push_cast, seval, hy, eF_len, eF_0, eF_1, eF_2, eF_s2] <;> (try simp (disch := omega) only [wI, wU, wC]) <;> exact rfl)
        exact hnb
        focus (focus (simp only [push_cast, seval, hy, eF_len, eF_0, eF_1, eF_2, eF_s2] <;> first | trivial | assumption | (refine ⟨?_, ?_⟩ <;> assumption) | (simp; done)))
        rintro x m' ⟨rfl, e4, rfl⟩
        have hsh := blk_shift (G.length + 3) (ks := ks) (ls := []) (e4 := e4) (life := y.life) (L := []) (vi := 0) (I := []) (W := List.replicate y.items.toNat 0) (T := T0 y.items.toNat)
        simp only [shE] at hsh
        simp only [eF_len]
        rw [hsh]
        generalize hE4 : (⟨e4.ver, e4.kind.shift (G.length + 3)⟩ : Ent) = e5
        dsimp only [AV.shift]
        have hFl : ∀ (e2 : Ent) (r : List Int), (eF ⟨0, .row 2 [storA ks []]⟩ e2 G r).length = G.length + 3 := fun _ r => rfl
        generalize hN : G.length + 3 = N at hFl
        have hg := fun (e2 : Ent) (r : List Int) (l : Mem) (i : Nat) => getF (l := l) (hFl e2 r) i
        have hg0 := fun (e2 : Ent) (r : List Int) (l : Mem) => getF0 (l := l) (hFl e2 r)
        dsimp only [S.put, optG]
        repeat (first | apply Wp.seq | apply Wp.block | (apply Run.next; (simp only [push_cast, seval, hy, eF_len, eF_0, eF_1, eF_2, eF_s2] <;> (try simp (disch := omega) only [wI, wU, wC]) <;> exact rfl); (focus ((try simp only [push_cast, seval, hy, eF_len, eF_0, eF_1, eF_2, eF_s2]) <;> exact sT))) | ((first | apply Run.nil | apply Wp.skip); dsimp only [sQ, tQ, bQ]) | (apply Wp.run; (dsimp only [List.map] <;> exact rfl); exact rfl) | (apply Wp.exit; dsimp only [sQ, tQ, bQ]; simp only [reduceIte]))
        apply Run.spec (he := Enters.of Try.func56 rfl rfl) (hc := hdo _ N (hFl _ []) e5)
        focus exact rfl
        focus (simp only [push_cast, seval, hy, eF_len, eF_0, eF_1, eF_2, eF_s2] <;> exact rfl)
        focus (simp only [push_cast, seval, hy, eF_len, eF_0, eF_1, eF_2, eF_s2] <;> (try simp (disch := omega) only [wI, wU, wC]) <;> exact rfl)
        rintro x' m' ⟨vi', T', ⟨J, h1, rfl, h2, rfl⟩ | ⟨h1, rfl, h2, rfl⟩⟩
        · generalize wO [] [] y.items.toNat J = W at *
          dsimp only [S.put, optG]
          repeat (first | apply Wp.seq | apply Wp.block | (apply Run.next; (simp only [push_cast, seval, hy, eFa_0, eFa_1, eFa_2, hg, hg0] <;> (try simp (disch := omega) only [wI, wU, wC]) <;> exact rfl); (focus ((try simp only [push_cast, seval, hy, eFa_0, eFa_1, eFa_2, hg, hg0]) <;> exact sT))) | ((first | apply Run.nil | apply Wp.skip); dsimp only [sQ, tQ, bQ]) | (apply Wp.run; (dsimp only [List.map] <;> exact rfl); exact rfl) | (apply Wp.exit; dsimp only [sQ, tQ, bQ]; simp only [reduceIte]) | (apply Run.gtrue; (simp only [push_cast, seval, hy, eFa_0, eFa_1, eFa_2, hg, hg0] <;> (try simp (disch := omega) only [wI, wU, wC]) <;> exact rfl); (simp only [push_cast, seval, hy, eFa_0, eFa_1, eFa_2, hg, hg0] <;> (try simp (disch := omega) only [wI, wU, wC]) <;> exact rfl)) | (apply Run.gfalse (.bool false); (simp only [push_cast, seval, hy, eFa_0, eFa_1, eFa_2, hg, hg0] <;> (try simp (disch := omega) only [wI, wU, wC]) <;> exact rfl); dsimp only [S.put, optG]) | (apply Wp.condT; (simp only [push_cast, seval, hy, eFa_0, eFa_1, eFa_2, hg, hg0] <;> (try simp (disch := omega) only [wI, wU, wC]) <;> exact rfl)) | (apply Wp.condF; (simp only [push_cast, seval, hy, eFa_0, eFa_1, eFa_2, hg, hg0] <;> (try simp (disch := omega) only [wI, wU, wC]) <;> exact rfl)))
          refine Wp.loop (fun (_ : Nat) => { t := [(1, .clo 56 [refS ks []]), (2, .optr 0 0 0 0), (5, .non A), (8, .optr (N + 3) 1 0 0), (16, .lst 2 (ks.map stA)), (17, .int ks.length), (18, .int k), (36, .osl (N + 5) 0 0 0), (37, .int 0), (38, .int 0)], m := eF ⟨0, .row 2 [storA ks []]⟩ ⟨v + 1, .row 2 [stA y]⟩ G [] ++ blk N ks [] ⟨0, .row 2 [storA ks []]⟩ e5 y.life [] vi' J W T' [], n := 56 }) (fun _ => True) (fun _ => 0) 0 ?_ ?_ ?_
          · (refine Le.of ?_ ?_ rfl rfl <;> (try simp only [push_cast, seval, hy, eFa_0, eFa_1, eFa_2, hg, hg0]) <;> (try (with_reducible rfl)))
          · trivial
          · intro q hq1
            repeat (first | apply Wp.seq | apply Wp.block | (apply Run.next; (simp only [push_cast, seval, hy, eFa_0, eFa_1, eFa_2, hg, hg0] <;> (try simp (disch := omega) only [wI, wU, wC]) <;> exact rfl); (focus ((try simp only [push_cast, seval, hy, eFa_0, eFa_1, eFa_2, hg, hg0]) <;> exact sT))) | ((first | apply Run.nil | apply Wp.skip); dsimp only [sQ, tQ, bQ]) | (apply Wp.run; (dsimp only [List.map] <;> exact rfl); exact rfl) | (apply Wp.exit; dsimp only [sQ, tQ, bQ]; simp only [reduceIte]))
            (apply Wp.cond; (simp only [push_cast, seval, hy, eFa_0, eFa_1, eFa_2, hg, hg0] <;> (try simp (disch := omega) only [wI, wU, wC]) <;> exact rfl))
            · intro hcq
              simp at hcq
            · intro hcq
              repeat (first | apply Wp.seq | apply Wp.block | (apply Run.next; (simp only [push_cast, seval, hy, eFa_0, eFa_1, eFa_2, hg, hg0] <;> (try simp (disch := omega) only [wI, wU, wC]) <;> exact rfl); (focus ((try simp only [push_cast, seval, hy, eFa_0, eFa_1, eFa_2, hg, hg0]) <;> exact sT))) | ((first | apply Run.nil | apply Wp.skip); dsimp only [sQ, tQ, bQ]) | (apply Wp.run; (dsimp only [List.map] <;> exact rfl); exact rfl) | (apply Wp.exit; dsimp only [sQ, tQ, bQ]; simp only [reduceIte]))
              refine ⟨(k + 1, v + 1, .row 2 [stA y], G ++ blk N ks [] ⟨0, .row 2 [storA ks []]⟩ e5 y.life [] vi' J W T' []), ?_, ⟨by simp only; omega, fun i hi => ?_⟩, by simp only; omega⟩
              · simp only
                rw [← eF_app]
                (refine Le.of ?_ ?_ rfl rfl <;> (try simp only [push_cast, seval, hy, eFa_0, eFa_1, eFa_2, hg, hg0]) <;> (try (with_reducible rfl)))
              · simp only at hi
                by_cases hik : i = k
                · rw [hik, show srK ks [] k = some J from h1]; rfl
                · exact hk2 i (by omega)
        · dsimp only [S.put, optG]
          (apply Run.next; (simp only [push_cast, seval, hy] <;> (try simp (disch := omega) only [wI, wU, wC]) <;> exact rfl); (focus ((try simp only [push_cast, seval, hy]) <;> exact sT)))
          (apply Run.nil; dsimp only [sQ, tQ, bQ])
          (apply Wp.condT; (simp only [push_cast, seval, hy] <;> (try simp (disch := omega) only [wI, wU, wC]) <;> exact rfl))
          repeat (first | apply Wp.seq | apply Wp.block)
          (apply Wp.run; (dsimp only [List.map] <;> exact rfl); exact rfl)
          (apply Run.nilc; (try dsimp only [putA]))
          (apply Run.nil; dsimp only [sQ, tQ, bQ])
          (apply Wp.ret; (try dsimp only [sQ, tQ, bQ]); apply leaveK; exact rfl; (simp only [push_cast, seval, hy] <;> (try simp (disch := omega) only [wI, wU, wC]) <;> exact rfl); (focus (first | (simp only [push_cast, seval, hy]; done) | trivial | (simp only [push_cast, seval, hy]; trivial) | (simp; done))); (focus (first | (simp only [push_cast, seval, hy]; done) | trivial | (simp only [push_cast, seval, hy]; trivial) | (simp; done))); (focus (first | (simp only [push_cast, seval, hy]; done) | trivial | (simp only [push_cast, seval, hy]; trivial) | (simp; done))); (try simp only [push_cast, seval, hy]))
          exact hQn hc h1
      · intro hc
        simp only [decide_eq_false_iff_not, Int.ofNat_lt] at hc
        obtain rfl : k = ks.length := by omega
        repeat (first | apply Wp.seq | apply Wp.block | (apply Run.next; (simp only [push_cast, seval] <;> (try simp (disch := omega) only [wI, wU, wC]) <;> exact rfl); (focus ((try simp only [push_cast, seval]) <;> exact sT))) | ((first | apply Run.nil | apply Wp.skip); dsimp only [sQ, tQ, bQ]) | (apply Wp.run; (dsimp only [List.map] <;> exact rfl); exact rfl) | (apply Wp.exit; dsimp only [sQ, tQ, bQ]; simp only [reduceIte]))
        (apply Wp.ret; (try dsimp only [sQ, tQ, bQ]); apply leaveK; exact rfl; (simp only [push_cast, seval] <;> (try simp (disch := omega) only [wI, wU, wC]) <;> exact rfl); (focus (first | (simp only [push_cast, seval]; done) | trivial | (simp only [push_cast, seval]; trivial) | (simp; done))); (focus (first | (simp only [push_cast, seval]; done) | trivial | (simp only [push_cast, seval]; trivial) | (simp; done))); (focus (first | (simp only [push_cast, seval]; done) | trivial | (simp only [push_cast, seval]; trivial) | (simp; done))); (try simp only [push_cast, seval]))
        exact hQs hk2
  · have hQs : (∀ k, k < ks.length → (srK ks ls k).isSome = true) → EachQ ks ls (.ints (glue ls (fun k => (srK ks ls k).getD []) ls.length)) [] := fun h => ⟨rfl, .inr ⟨h, .inl ⟨hls, rfl⟩⟩⟩
    have hpos : 0 < ls.length := List.length_pos_iff.2 hls
    generalize EachQ ks ls = Q at hQn hQs
    generalize hf : (fun k => (srK ks ls k).getD []) = f at hQs
    (refine Spec.of_body Try.func55 rfl (by rw [Try.ntmps55]; simp) 0 (by simp) ?_; rw [Try.results55, Try.ntmps55]; simp only [entry, zipArgs, Nat.reduceAdd])
    repeat (first | apply Wp.seq | apply Wp.block | (apply Run.next; (simp only [push_cast, seval] <;> (try simp (disch := omega) only [wI, wU, wC]) <;> exact rfl); (focus ((try simp only [push_cast, seval]) <;> exact sT))) | ((first | apply Run.nil | apply Wp.skip); dsimp only [sQ, tQ, bQ]) | (apply Wp.run; (dsimp only [List.map] <;> exact rfl); exact rfl) | (apply Wp.exit; dsimp only [sQ, tQ, bQ]; simp only [reduceIte]))
    (refine Wp.vacs 1 ?_; (try simp only [List.replicate_succ, List.replicate_zero, List.cons_append, List.nil_append]))
    refine Wp.loop (fun (q : Nat × Nat × Kind × Mem) => { t := [(1, .clo 56 [refS ks ls]), (2, .optr 0 0 0 0), (5, .osl 1 0 0 ls.length), (16, .lst 2 (ks.map stA)), (17, .int ks.length), (18, .int q.1)], m := eF ⟨0, .row 2 [storA ks ls]⟩ ⟨q.2.1, q.2.2.1⟩ q.2.2.2 (plQ ls f q.1 0), n := 56 }) (fun q => q.1 ≤ ks.length ∧ ∀ k, k < q.1 → (srK ks ls k).isSome = true) (fun q => ks.length - q.1) (0, 0, .row 1 [], []) ?_ ?_ ?_
    · rw [plQ_zero hv]
      (refine Le.of ?_ ?_ rfl rfl <;> (try simp only [push_cast, seval]) <;> (try (with_reducible rfl)))
      all_goals rfl
    · simp
    · rintro ⟨k, v, kd, G⟩ ⟨hk1, hk2⟩
      simp only at hk1 hk2
      have hql := plQ_len ls f k 0
      repeat (first | apply Wp.seq | apply Wp.block | (apply Run.calm; exact rfl; (simp only [push_cast, seval] <;> (try simp (disch := omega) only [wI, wU, wC]) <;> exact rfl); (focus ((try simp only [push_cast, seval]) <;> exact sT))) | ((first | apply Run.nil | apply Wp.skip); dsimp only [sQ, tQ, bQ]) | (apply Wp.run; (dsimp only [List.map] <;> exact rfl); exact rfl) | (apply Wp.exit; dsimp only [sQ, tQ, bQ]; simp only [reduceIte]))
      (apply Wp.cond; (simp only [push_cast, seval] <;> (try simp (disch := omega) only [wI, wU, wC]) <;> exact rfl))
      · intro hc
        simp only [decide_eq_true_eq, Int.ofNat_lt] at hc
        have hs := hv.st k hc
        have hnb := newBench_spec hv (k : Int) (ks.getD k st0).items (by omega) (by omega)
        rw [Int.toNat_natCast] at hnb
        have hdo := fun (F : Mem) (N : Nat) (hF : F.length = N) (e4 : Ent) => planDo_spec hv hc hF ⟨0, .row 2 [storA ks ls]⟩ e4
        generalize hy : ks.getD k st0 = y at hs hnb hdo
        repeat (first | apply Wp.seq | apply Wp.block | (apply Run.calm; exact rfl; (simp only [push_cast, seval, hy, eF_len, eF_0, eF_1, eF_2, eF_s2] <;> (try simp (disch := omega) only [wI, wU, wC]) <;> exact rfl); (focus ((try simp only [push_cast, seval, hy, eF_len, eF_0, eF_1, eF_2, eF_s2]) <;> exact sT))) | ((first | apply Run.nil | apply Wp.skip); dsimp only [sQ, tQ, bQ]) | (apply Wp.run; (dsimp only [List.map] <;> exact rfl); exact rfl) | (apply Wp.exit; dsimp only [sQ, tQ, bQ]; simp only [reduceIte]))
        (apply Run.alcAt 2; (simp only [push_cast, seval, hy, eF_len, eF_0, eF_1, eF_2, eF_s2] <;> (try simp (disch := omega) only [wI, wU, wC]) <;> exact rfl); (focus ((try simp only [push_cast, seval, hy, eF_len, eF_0, eF_1, eF_2, eF_s2]) <;> exact sT)); exact rfl; (try simp only [push_cast, seval, hy, eF_len, eF_0, eF_1, eF_2, eF_s2]))
        repeat (first | apply Wp.seq | apply Wp.block | (apply Run.calm; exact rfl; (simp only [push_cast, seval, hy, eF_len, eF_0, eF_1, eF_2, eF_s2] <;> (try simp (disch := omega) only [wI, wU, wC]) <;> exact rfl); (focus ((try simp only [push_cast, seval, hy, eF_len, eF_0, eF_1, eF_2, eF_s2]) <;> exact sT))) | ((first | apply Run.nil | apply Wp.skip); dsimp only [sQ, tQ, bQ]) | (apply Wp.run; (dsimp only [List.map] <;> exact rfl); exact rfl) | (apply Wp.exit; dsimp only [sQ, tQ, bQ]; simp only [reduceIte]))
        apply Run.fresh (he := Enters.of Try.func67 rfl rfl)
        focus (simp only [push_cast, seval, hy, eF_len, eF_0, eF_1, eF_2, eF_s2] <;> exact rfl)
        focus (simp only [push_cast, seval, hy, eF_len, eF_0, eF_1, eF_2, eF_s2] <;> (try simp (disch := omega) only [wI, wU, wC]) <;> exact rfl)
        exact hnb
        focus (focus (simp only [push_cast, seval, hy, eF_len, eF_0, eF_1, eF_2, eF_s2] <;> first | trivial | assumption | (refine ⟨?_, ?_⟩ <;> assumption) | (simp; done)))
        rintro x m' ⟨rfl, e4, rfl⟩
        have hsh := blk_shift (G.length + 3) (ks := ks) (ls := ls) (e4 := e4) (life := y.life) (L := loanP ls k ls.length) (vi := 0) (I := []) (W := List.replicate y.items.toNat 0) (T := T0 y.items.toNat)
        simp only [shE] at hsh
        simp only [eF_len]
        rw [hsh]
        generalize hE4 : (⟨e4.ver, e4.kind.shift (G.length + 3)⟩ : Ent) = e5
        dsimp only [AV.shift]
        have hFl : ∀ (e2 : Ent) (r : List Int), (eF ⟨0, .row 2 [storA ks ls]⟩ e2 G r).length = G.length + 3 := fun _ r => rfl
        generalize hN : G.length + 3 = N at hFl
        have hg := fun (e2 : Ent) (r : List Int) (l : Mem) (i : Nat) => getF (l := l) (hFl e2 r) i
        have hg0 := fun (e2 : Ent) (r : List Int) (l : Mem) => getF0 (l := l) (hFl e2 r)
        dsimp only [S.put, optG]
        repeat (first | apply Wp.seq | apply Wp.block | (apply Run.next; (simp only [push_cast, seval, hy, eF_len, eF_0, eF_1, eF_2, eF_s2] <;> (try simp (disch := omega) only [wI, wU, wC]) <;> exact rfl); (focus ((try simp only [push_cast, seval, hy, eF_len, eF_0, eF_1, eF_2, eF_s2]) <;> exact sT))) | ((first | apply Run.nil | apply Wp.skip); dsimp only [sQ, tQ, bQ]) | (apply Wp.run; (dsimp only [List.map] <;> exact rfl); exact rfl) | (apply Wp.exit; dsimp only [sQ, tQ, bQ]; simp only [reduceIte]))
        apply Run.spec (he := Enters.of Try.func56 rfl rfl) (hc := hdo _ N (hFl _ (plQ ls f k 0)) e5)
        focus exact rfl
        focus (simp only [push_cast, seval, hy, eF_len, eF_0, eF_1, eF_2, eF_s2] <;> exact rfl)
        focus (simp only [push_cast, seval, hy, eF_len, eF_0, eF_1, eF_2, eF_s2] <;> (try simp (disch := omega) only [wI, wU, wC]) <;> exact rfl)
        rintro x' m' ⟨vi', T', ⟨J, h1, rfl, h2, rfl⟩ | ⟨h1, rfl, h2, rfl⟩⟩
        · have hJ := (srch_some h1).1.1
          have hJ : J.length = (loanP ls (k : Int) ls.length).length := by simpa using hJ
          have hfk : f k = J := by rw [← hf]; simp only [h1]; rfl
          have hst := fun q (hq : q < (loanP ls (k : Int) ls.length).length) => plQ_set (ls := ls) f hq
          have hLi := loanP_in ls (k : Int)
          have hLl := loanP_len ls (k : Int) ls.length
          have hnx := plQ_next ls f k
          rw [hfk] at hst
          generalize wO ls (loanP ls (k : Int) ls.length) y.items.toNat J = W at *
          generalize loanP ls (k : Int) ls.length = L at *
          dsimp only [S.put, optG]
          repeat (first | apply Wp.seq | apply Wp.block | (apply Run.next; (simp only [push_cast, seval, hy, eFa_0, eFa_1, eFa_2, hg, hg0, plQ_len] <;> (try simp (disch := omega) only [wI, wU, wC]) <;> exact rfl); (focus ((try simp only [push_cast, seval, hy, eFa_0, eFa_1, eFa_2, hg, hg0, plQ_len]) <;> exact sT))) | ((first | apply Run.nil | apply Wp.skip); dsimp only [sQ, tQ, bQ]) | (apply Wp.run; (dsimp only [List.map] <;> exact rfl); exact rfl) | (apply Wp.exit; dsimp only [sQ, tQ, bQ]; simp only [reduceIte]) | (apply Run.gtrue; (simp only [push_cast, seval, hy, eFa_0, eFa_1, eFa_2, hg, hg0, plQ_len] <;> (try simp (disch := omega) only [wI, wU, wC]) <;> exact rfl); (simp only [push_cast, seval, hy, eFa_0, eFa_1, eFa_2, hg, hg0, plQ_len] <;> (try simp (disch := omega) only [wI, wU, wC]) <;> exact rfl)) | (apply Run.gfalse (.bool false); (simp only [push_cast, seval, hy, eFa_0, eFa_1, eFa_2, hg, hg0, plQ_len] <;> (try simp (disch := omega) only [wI, wU, wC]) <;> exact rfl); dsimp only [S.put, optG]) | (apply Wp.condT; (simp only [push_cast, seval, hy, eFa_0, eFa_1, eFa_2, hg, hg0, plQ_len] <;> (try simp (disch := omega) only [wI, wU, wC]) <;> exact rfl)) | (apply Wp.condF; (simp only [push_cast, seval, hy, eFa_0, eFa_1, eFa_2, hg, hg0, plQ_len] <;> (try simp (disch := omega) only [wI, wU, wC]) <;> exact rfl)))
          refine Wp.loop (fun (q : Nat) => { t := [(1, .clo 56 [refS ks ls]), (2, .optr 0 0 0 0), (5, .osl 1 0 0 ls.length), (8, .optr (N + 3) 1 0 0), (16, .lst 2 (ks.map stA)), (17, .int ks.length), (18, .int k), (36, .osl (N + 5) L.length 0 L.length), (37, .int L.length), (38, .int q)], m := eF ⟨0, .row 2 [storA ks ls]⟩ ⟨v + 1, .row 2 [stA y]⟩ G (plQ ls f k q) ++ blk N ks ls ⟨0, .row 2 [storA ks ls]⟩ e5 y.life L vi' J W T' [], n := 56 }) (fun q => q ≤ L.length) (fun q => L.length - q) 0 ?_ ?_ ?_
          · (refine Le.of ?_ ?_ rfl rfl <;> (try simp only [push_cast, seval, hy, eFa_0, eFa_1, eFa_2, hg, hg0, plQ_len]) <;> (try (with_reducible rfl)))
          · simp
          · intro q hq1
            repeat (first | apply Wp.seq | apply Wp.block | (apply Run.next; (simp only [push_cast, seval, hy, eFa_0, eFa_1, eFa_2, hg, hg0, plQ_len] <;> (try simp (disch := omega) only [wI, wU, wC]) <;> exact rfl); (focus ((try simp only [push_cast, seval, hy, eFa_0, eFa_1, eFa_2, hg, hg0, plQ_len]) <;> exact sT))) | ((first | apply Run.nil | apply Wp.skip); dsimp only [sQ, tQ, bQ]) | (apply Wp.run; (dsimp only [List.map] <;> exact rfl); exact rfl) | (apply Wp.exit; dsimp only [sQ, tQ, bQ]; simp only [reduceIte]))
            (apply Wp.cond; (simp only [push_cast, seval, hy, eFa_0, eFa_1, eFa_2, hg, hg0, plQ_len] <;> (try simp (disch := omega) only [wI, wU, wC]) <;> exact rfl))
            · intro hcq
              simp only [decide_eq_true_eq, Int.ofNat_lt] at hcq
              have hlo : 0 ≤ L.getD q 0 ∧ L.getD q 0 < (ls.length : Int) := hLi _ (by simp [hcq])
              have hst1 := hst q hcq
              generalize hlv : L.getD q 0 = loan at hlo hst1
              generalize hjv : J.getD q 0 = j at hst1
              repeat (first | apply Wp.seq | apply Wp.block | (apply Run.next; (simp only [push_cast, seval, hy, eFa_0, eFa_1, eFa_2, hg, hg0, plQ_len, hlv, hjv, hJ] <;> (try simp (disch := omega) only [wI, wU, wC]) <;> exact rfl); (focus ((try simp only [push_cast, seval, hy, eFa_0, eFa_1, eFa_2, hg, hg0, plQ_len, hlv, hjv, hJ]) <;> exact sT))) | ((first | apply Run.nil | apply Wp.skip); dsimp only [sQ, tQ, bQ]) | (apply Wp.run; (dsimp only [List.map] <;> exact rfl); exact rfl) | (apply Wp.exit; dsimp only [sQ, tQ, bQ]; simp only [reduceIte]))
              refine ⟨q + 1, ?_, by omega, by omega⟩
              rw [hst1]
              (refine Le.of ?_ ?_ rfl rfl <;> (try simp only [push_cast, seval, hy, eFa_0, eFa_1, eFa_2, hg, hg0, plQ_len, hlv, hjv, hJ]) <;> (try (with_reducible rfl)))
              all_goals rfl
            · intro hcq
              simp only [decide_eq_false_iff_not, Int.ofNat_lt] at hcq
              obtain rfl : q = L.length := by omega
              rw [hnx]
              repeat (first | apply Wp.seq | apply Wp.block | (apply Run.next; (simp only [push_cast, seval, hy, eFa_0, eFa_1, eFa_2, hg, hg0, plQ_len] <;> (try simp (disch := omega) only [wI, wU, wC]) <;> exact rfl); (focus ((try simp only [push_cast, seval, hy, eFa_0, eFa_1, eFa_2, hg, hg0, plQ_len]) <;> exact sT))) | ((first | apply Run.nil | apply Wp.skip); dsimp only [sQ, tQ, bQ]) | (apply Wp.run; (dsimp only [List.map] <;> exact rfl); exact rfl) | (apply Wp.exit; dsimp only [sQ, tQ, bQ]; simp only [reduceIte]))
              refine ⟨(k + 1, v + 1, .row 2 [stA y], G ++ blk N ks ls ⟨0, .row 2 [storA ks ls]⟩ e5 y.life L vi' J W T' []), ?_, ⟨by simp only; omega, fun i hi => ?_⟩, by simp only; omega⟩
              · simp only
                rw [← eF_app]
                (refine Le.of ?_ ?_ rfl rfl <;> (try simp only [push_cast, seval, hy, eFa_0, eFa_1, eFa_2, hg, hg0, plQ_len]) <;> (try (with_reducible rfl)))
              · simp only at hi
                by_cases hik : i = k
                · rw [hik, show srK ks ls k = some J from h1]; rfl
                · exact hk2 i (by omega)
        · dsimp only [S.put, optG]
          (apply Run.next; (simp only [push_cast, seval, hy] <;> (try simp (disch := omega) only [wI, wU, wC]) <;> exact rfl); (focus ((try simp only [push_cast, seval, hy]) <;> exact sT)))
          (apply Run.nil; dsimp only [sQ, tQ, bQ])
          (apply Wp.condT; (simp only [push_cast, seval, hy] <;> (try simp (disch := omega) only [wI, wU, wC]) <;> exact rfl))
          repeat (first | apply Wp.seq | apply Wp.block)
          (apply Wp.run; (dsimp only [List.map] <;> exact rfl); exact rfl)
          (apply Run.nilc; (try dsimp only [putA]))
          (apply Run.nil; dsimp only [sQ, tQ, bQ])
          (apply Wp.ret; (try dsimp only [sQ, tQ, bQ]); apply leaveK; exact rfl; (simp only [push_cast, seval, hy] <;> (try simp (disch := omega) only [wI, wU, wC]) <;> exact rfl); (focus (first | (simp only [push_cast, seval, hy]; done) | trivial | (simp only [push_cast, seval, hy]; trivial) | (simp; done))); (focus (first | (simp only [push_cast, seval, hy]; done) | trivial | (simp only [push_cast, seval, hy]; trivial) | (simp; done))); (focus (first | (simp only [push_cast, seval, hy]; done) | trivial | (simp only [push_cast, seval, hy]; trivial) | (simp; done))); (try simp only [push_cast, seval, hy]))
          exact hQn hc h1
      · intro hc
        simp only [decide_eq_false_iff_not, Int.ofNat_lt] at hc
        obtain rfl : k = ks.length := by omega
        have hend := plQ_end hv f
        rw [hend]
        have hgl := glue_len ls f ls.length
        repeat (first | apply Wp.seq | apply Wp.block | (apply Run.next; (simp only [push_cast, seval, eF_len, eF_0, eF_1, eF_2, hgl] <;> (try simp (disch := omega) only [wI, wU, wC]) <;> exact rfl); (focus ((try simp only [push_cast, seval, eF_len, eF_0, eF_1, eF_2, hgl]) <;> exact sT))) | ((first | apply Run.nil | apply Wp.skip); dsimp only [sQ, tQ, bQ]) | (apply Wp.run; (dsimp only [List.map] <;> exact rfl); exact rfl) | (apply Wp.exit; dsimp only [sQ, tQ, bQ]; simp only [reduceIte]))
        (apply Wp.freeze 4; (simp only [push_cast, seval, eF_len, eF_0, eF_1, eF_2, hgl] <;> (try simp (disch := omega) only [wI, wU, wC]) <;> exact rfl); (simp only [push_cast, seval, eF_len, eF_0, eF_1, eF_2, hgl] <;> (try simp (disch := omega) only [wI, wU, wC]) <;> exact rfl); (focus (try simp only [push_cast, seval, eF_len, eF_0, eF_1, eF_2, hgl]); (try (exact sT))); (focus (exact sT)))
        (apply Wp.ret; (try dsimp only [sQ, tQ, bQ]); apply leaveK; exact rfl; (simp only [push_cast, seval, eF_len, eF_0, eF_1, eF_2, hgl] <;> (try simp (disch := omega) only [wI, wU, wC]) <;> exact rfl); (focus (first | (simp only [push_cast, seval, eF_len, eF_0, eF_1, eF_2, hgl]; done) | trivial | (simp only [push_cast, seval, eF_len, eF_0, eF_1, eF_2, hgl]; trivial) | (simp; done))); (focus (first | (simp only [push_cast, seval, eF_len, eF_0, eF_1, eF_2, hgl]; done) | trivial | (simp only [push_cast, seval, eF_len, eF_0, eF_1, eF_2, hgl]; trivial) | (simp; done))); (focus (first | (simp only [push_cast, seval, eF_len, eF_0, eF_1, eF_2, hgl]; done) | trivial | (simp only [push_cast, seval, eF_len, eF_0, eF_1, eF_2, hgl]; trivial) | (simp; done))); (try simp only [push_cast, seval, eF_len, eF_0, eF_1, eF_2, hgl]))
        rw [List.take_of_length_le (by omega)]
        exact hQs hk2
end Go.Proofs.Try
set_option maxHeartbeats 8000000
namespace Go.Proofs.Try
open Go.Vg

/-! Plan -/
def exA (ks : List St) (ls : List Ln) : Bool := (List.range ks.length).all fun k => (srK ks ls k).isSome
def gluS (ks : List St) (ls : List Ln) : List Int := glue ls (fun k => (srK ks ls k).getD []) ls.length
def plnA (ks : List St) (ls : List Ln) : AV := if chkE ks ls = 0 ∧ exA ks ls = true then .ints (gluS ks ls) else .emp
def plnE (ks : List St) (ls : List Ln) : Int := if chkE ks ls = 0 then (if exA ks ls = true then 0 else 101) else chkE ks ls
theorem Plan_pure (ks : List St) (ls : List Ln) (hk : ks.length ≤ 9223372036854775807) (hl : ls.length ≤ 9223372036854775807) : Pure Try.prog 25 [storA ks ls] (.tup [plnA ks ls, .int (plnE ks ls)]) := by
  have hck := check_pure ks ls hk hl
  unfold plnA plnE
  by_cases h1 : chkE ks ls = 0
  · have hv := chkE_ok h1
    have hea := eachP_spec hv
    rw [if_pos h1]
    rw [h1] at hck ⊢
    have hno : ∀ k, k < ks.length → srK ks ls k = none → exA ks ls = false := fun k hk h => range_no hk (by rw [h]; rfl)
    have hall : (∀ k, k < ks.length → (srK ks ls k).isSome = true) → exA ks ls = true := fun h => range_all h
    generalize exA ks ls = ex at hno hall
    (refine Spec.of_body Try.func25 rfl (by rw [Try.ntmps25]; simp) 0 (by simp) ?_; rw [Try.results25, Try.ntmps25]; simp only [entry, zipArgs, Nat.reduceAdd])
    repeat (first | apply Wp.seq | apply Wp.block | (apply Run.next; (simp only [push_cast, seval] <;> (try simp (disch := omega) only [wI, wU, wC]) <;> exact rfl); (focus ((try simp only [push_cast, seval]) <;> exact sT))) | ((first | apply Run.nil | apply Wp.skip); dsimp only [sQ, tQ, bQ]) | (apply Wp.run; (dsimp only [List.map] <;> exact rfl); exact rfl) | (apply Wp.exit; dsimp only [sQ, tQ, bQ]; simp only [reduceIte]))
    (apply Run.pureP; (simp only [push_cast, seval] <;> (try simp (disch := omega) only [wI, wU, wC]) <;> exact rfl); (exact (Enters.of Try.func28 rfl rfl)); (exact hck); (focus (simp only [push_cast, seval] <;> first | trivial | assumption | (refine ⟨?_, ?_⟩ <;> assumption) | (simp; done))); (try dsimp only [putA, optG]))
    repeat (first | apply Wp.seq | apply Wp.block | (apply Run.calm; exact rfl; (simp only [push_cast, seval] <;> (try simp (disch := omega) only [wI, wU, wC]) <;> exact rfl); (focus ((try simp only [push_cast, seval]) <;> exact sT))) | ((first | apply Run.nil | apply Wp.skip); dsimp only [sQ, tQ, bQ]) | (apply Wp.run; (dsimp only [List.map] <;> exact rfl); exact rfl) | (apply Wp.exit; dsimp only [sQ, tQ, bQ]; simp only [reduceIte]))
    (apply Wp.condF; (simp only [push_cast, seval] <;> (try simp (disch := omega) only [wI, wU, wC]) <;> exact rfl))
    (apply Wp.skip; dsimp only [sQ, tQ, bQ])
    (apply Wp.freezeP 1; (simp only [push_cast, seval] <;> (try simp (disch := omega) only [wI, wU, wC]) <;> exact rfl); (simp only [push_cast, seval] <;> (try simp (disch := omega) only [wI, wU, wC]) <;> exact rfl); exact rfl; (focus (first | (simp [AV.cells]; done) | (simp only [push_cast, seval]; done))); simp only [AV.cells, List.set_cons_succ, List.set_cons_zero])
    repeat (first | apply Wp.seq | apply Wp.block | (apply Run.next; (simp only [push_cast, seval] <;> (try simp (disch := omega) only [wI, wU, wC]) <;> exact rfl); (focus ((try simp only [push_cast, seval]) <;> exact sT))) | ((first | apply Run.nil | apply Wp.skip); dsimp only [sQ, tQ, bQ]) | (apply Wp.run; (dsimp only [List.map] <;> exact rfl); exact rfl) | (apply Wp.exit; dsimp only [sQ, tQ, bQ]; simp only [reduceIte]))
    apply Run.fresh (he := Enters.of Try.func55 rfl rfl)
    focus (simp only [push_cast, seval] <;> exact rfl)
    focus (simp only [push_cast, seval] <;> (try simp (disch := omega) only [wI, wU, wC]) <;> exact rfl)
    exact hea
    focus (focus (simp only [push_cast, seval] <;> first | trivial | assumption | (refine ⟨?_, ?_⟩ <;> assumption) | (simp; done)))
    rintro x m' ⟨rfl, ⟨⟨k, hk1, hk2⟩, rfl⟩ | ⟨h2, ⟨h3, rfl⟩ | ⟨h3, A, rfl⟩⟩⟩
    · have := hno k hk1 hk2
      subst this
      dsimp only [AV.shift]
      dsimp only [S.put, optG]
      repeat (first | apply Wp.seq | apply Wp.block | (apply Run.next; (simp only [push_cast, seval] <;> (try simp (disch := omega) only [wI, wU, wC]) <;> exact rfl); (focus ((try simp only [push_cast, seval]) <;> exact sT))) | ((first | apply Run.nil | apply Wp.skip); dsimp only [sQ, tQ, bQ]) | (apply Wp.run; (dsimp only [List.map] <;> exact rfl); exact rfl) | (apply Wp.exit; dsimp only [sQ, tQ, bQ]; simp only [reduceIte]))
      refine Run.isNil (e := 3) (b := true) (by simp only [push_cast, seval]) (by simp only [push_cast, seval]; rfl) ?_
      dsimp only [putA]
      repeat (first | apply Wp.seq | apply Wp.block | (apply Run.next; (simp only [push_cast, seval] <;> (try simp (disch := omega) only [wI, wU, wC]) <;> exact rfl); (focus ((try simp only [push_cast, seval]) <;> exact sT))) | ((first | apply Run.nil | apply Wp.skip); dsimp only [sQ, tQ, bQ]) | (apply Wp.run; (dsimp only [List.map] <;> exact rfl); exact rfl) | (apply Wp.exit; dsimp only [sQ, tQ, bQ]; simp only [reduceIte]) | (apply Run.gtrue; (simp only [push_cast, seval] <;> (try simp (disch := omega) only [wI, wU, wC]) <;> exact rfl); (simp only [push_cast, seval] <;> (try simp (disch := omega) only [wI, wU, wC]) <;> exact rfl)) | (apply Run.gfalse (.bool false); (simp only [push_cast, seval] <;> (try simp (disch := omega) only [wI, wU, wC]) <;> exact rfl); dsimp only [S.put, optG]) | (apply Wp.condT; (simp only [push_cast, seval] <;> (try simp (disch := omega) only [wI, wU, wC]) <;> exact rfl)) | (apply Wp.condF; (simp only [push_cast, seval] <;> (try simp (disch := omega) only [wI, wU, wC]) <;> exact rfl)))
      (apply Wp.ret; (try dsimp only [sQ, tQ, bQ]); apply leave0; exact rfl; (simp only [push_cast, seval] <;> (try simp (disch := omega) only [wI, wU, wC]) <;> exact rfl); all_goals (try simp only [push_cast, seval]); (try rfl))
    · have := hall h2
      subst this
      have hgl : (gluS ks ls).length = ls.length := glue_len _ _ _
      have hpos : 0 < ls.length := List.length_pos_iff.2 h3
      rw [show glue ls (fun k => (srK ks ls k).getD []) ls.length = gluS ks ls from rfl]
      generalize gluS ks ls = gl at hgl
      obtain ⟨a, gl, rfl⟩ : ∃ a l, gl = a :: l := by
        cases gl with
        | nil => simp at hgl; omega
        | cons a l => exact ⟨a, l, rfl⟩
      have hsh : (AV.ints (a :: gl)).shift [(⟨1, .row 2 []⟩ : Ent)].length = .ints (a :: gl) := shift_ok _ _ (by simp only [push_cast])
      simp only [hsh, List.map_nil, List.append_nil]
      dsimp only [S.put, optG]
      repeat (first | apply Wp.seq | apply Wp.block | (apply Run.next; (simp only [push_cast, seval] <;> (try simp (disch := omega) only [wI, wU, wC]) <;> exact rfl); (focus ((try simp only [push_cast, seval]) <;> exact sT))) | ((first | apply Run.nil | apply Wp.skip); dsimp only [sQ, tQ, bQ]) | (apply Wp.run; (dsimp only [List.map] <;> exact rfl); exact rfl) | (apply Wp.exit; dsimp only [sQ, tQ, bQ]; simp only [reduceIte]))
      refine Run.isNil (e := 3) (b := false) (by simp only [push_cast, seval]) (by simp only [push_cast, seval]; rfl) ?_
      dsimp only [putA]
      repeat (first | apply Wp.seq | apply Wp.block | (apply Run.next; (simp only [push_cast, seval] <;> (try simp (disch := omega) only [wI, wU, wC]) <;> exact rfl); (focus ((try simp only [push_cast, seval]) <;> exact sT))) | ((first | apply Run.nil | apply Wp.skip); dsimp only [sQ, tQ, bQ]) | (apply Wp.run; (dsimp only [List.map] <;> exact rfl); exact rfl) | (apply Wp.exit; dsimp only [sQ, tQ, bQ]; simp only [reduceIte]) | (apply Run.gtrue; (simp only [push_cast, seval] <;> (try simp (disch := omega) only [wI, wU, wC]) <;> exact rfl); (simp only [push_cast, seval] <;> (try simp (disch := omega) only [wI, wU, wC]) <;> exact rfl)) | (apply Run.gfalse (.bool false); (simp only [push_cast, seval] <;> (try simp (disch := omega) only [wI, wU, wC]) <;> exact rfl); dsimp only [S.put, optG]) | (apply Wp.condT; (simp only [push_cast, seval] <;> (try simp (disch := omega) only [wI, wU, wC]) <;> exact rfl)) | (apply Wp.condF; (simp only [push_cast, seval] <;> (try simp (disch := omega) only [wI, wU, wC]) <;> exact rfl)))
      (apply Wp.ret; (try dsimp only [sQ, tQ, bQ]); apply leave0; exact rfl; (simp only [push_cast, seval] <;> (try simp (disch := omega) only [wI, wU, wC]) <;> exact rfl); all_goals (try simp only [push_cast, seval]); (try rfl))
    · have := hall h2
      subst this
      subst h3
      dsimp only [AV.shift]
      dsimp only [S.put, optG]
      repeat (first | apply Wp.seq | apply Wp.block | (apply Run.next; (simp only [push_cast, seval] <;> (try simp (disch := omega) only [wI, wU, wC]) <;> exact rfl); (focus ((try simp only [push_cast, seval]) <;> exact sT))) | ((first | apply Run.nil | apply Wp.skip); dsimp only [sQ, tQ, bQ]) | (apply Wp.run; (dsimp only [List.map] <;> exact rfl); exact rfl) | (apply Wp.exit; dsimp only [sQ, tQ, bQ]; simp only [reduceIte]))
      refine Run.isNil (e := 3) (b := false) (by simp only [push_cast, seval]) (by simp only [push_cast, seval]; rfl) ?_
      dsimp only [putA]
      repeat (first | apply Wp.seq | apply Wp.block | (apply Run.next; (simp only [push_cast, seval] <;> (try simp (disch := omega) only [wI, wU, wC]) <;> exact rfl); (focus ((try simp only [push_cast, seval]) <;> exact sT))) | ((first | apply Run.nil | apply Wp.skip); dsimp only [sQ, tQ, bQ]) | (apply Wp.run; (dsimp only [List.map] <;> exact rfl); exact rfl) | (apply Wp.exit; dsimp only [sQ, tQ, bQ]; simp only [reduceIte]) | (apply Run.gtrue; (simp only [push_cast, seval] <;> (try simp (disch := omega) only [wI, wU, wC]) <;> exact rfl); (simp only [push_cast, seval] <;> (try simp (disch := omega) only [wI, wU, wC]) <;> exact rfl)) | (apply Run.gfalse (.bool false); (simp only [push_cast, seval] <;> (try simp (disch := omega) only [wI, wU, wC]) <;> exact rfl); dsimp only [S.put, optG]) | (apply Wp.condT; (simp only [push_cast, seval] <;> (try simp (disch := omega) only [wI, wU, wC]) <;> exact rfl)) | (apply Wp.condF; (simp only [push_cast, seval] <;> (try simp (disch := omega) only [wI, wU, wC]) <;> exact rfl)))
      refine Wp.empt 2 1 (A := some A) (by (simp only [push_cast, seval] <;> (try simp (disch := omega) only [wI, wU, wC]) <;> exact rfl)) ?_
      (apply Wp.ret; (try dsimp only [sQ, tQ, bQ]); apply leave0; exact rfl; (simp only [push_cast, seval] <;> (try simp (disch := omega) only [wI, wU, wC]) <;> exact rfl); all_goals (try simp only [push_cast, seval]); (try rfl))
  · rw [if_neg (fun h => h1 h.1), if_neg h1]
    generalize chkE ks ls = e at hck h1
    have he : decide (e = 0) = false := decide_eq_false h1
    (refine Spec.of_body Try.func25 rfl (by rw [Try.ntmps25]; simp) 0 (by simp) ?_; rw [Try.results25, Try.ntmps25]; simp only [entry, zipArgs, Nat.reduceAdd])
    repeat (first | apply Wp.seq | apply Wp.block | (apply Run.next; (simp only [push_cast, seval, he] <;> (try simp (disch := omega) only [wI, wU, wC]) <;> exact rfl); (focus ((try simp only [push_cast, seval, he]) <;> exact sT))) | ((first | apply Run.nil | apply Wp.skip); dsimp only [sQ, tQ, bQ]) | (apply Wp.run; (dsimp only [List.map] <;> exact rfl); exact rfl) | (apply Wp.exit; dsimp only [sQ, tQ, bQ]; simp only [reduceIte]))
    (apply Run.pureP; (simp only [push_cast, seval, he] <;> (try simp (disch := omega) only [wI, wU, wC]) <;> exact rfl); (exact (Enters.of Try.func28 rfl rfl)); (exact hck); (focus (simp only [push_cast, seval, he] <;> first | trivial | assumption | (refine ⟨?_, ?_⟩ <;> assumption) | (simp; done))); (try dsimp only [putA, optG]))
    repeat (first | apply Wp.seq | apply Wp.block | (apply Run.next; (simp only [push_cast, seval, he] <;> (try simp (disch := omega) only [wI, wU, wC]) <;> exact rfl); (focus ((try simp only [push_cast, seval, he]) <;> exact sT))) | ((first | apply Run.nil | apply Wp.skip); dsimp only [sQ, tQ, bQ]) | (apply Wp.run; (dsimp only [List.map] <;> exact rfl); exact rfl) | (apply Wp.exit; dsimp only [sQ, tQ, bQ]; simp only [reduceIte]) | (apply Run.gtrue; (simp only [push_cast, seval, he] <;> (try simp (disch := omega) only [wI, wU, wC]) <;> exact rfl); (simp only [push_cast, seval, he] <;> (try simp (disch := omega) only [wI, wU, wC]) <;> exact rfl)) | (apply Run.gfalse (.bool false); (simp only [push_cast, seval, he] <;> (try simp (disch := omega) only [wI, wU, wC]) <;> exact rfl); dsimp only [S.put, optG]) | (apply Wp.condT; (simp only [push_cast, seval, he] <;> (try simp (disch := omega) only [wI, wU, wC]) <;> exact rfl)) | (apply Wp.condF; (simp only [push_cast, seval, he] <;> (try simp (disch := omega) only [wI, wU, wC]) <;> exact rfl)))
    (apply Wp.ret; (try dsimp only [sQ, tQ, bQ]); apply leave0; exact rfl; (simp only [push_cast, seval, he] <;> (try simp (disch := omega) only [wI, wU, wC]) <;> exact rfl); all_goals (try simp only [push_cast, seval, he]); (try rfl))
end Go.Proofs.Try
set_option maxHeartbeats 8000000
namespace Go.Proofs.Try
open Go.Vg

/-! what a right plan uses up -/
structure RP (ks : List St) (ls : List Ln) (J : List Int) : Prop where
  len : J.length = ls.length
  rt : RtF (cS ks ls) (okS ks ls) 0 J
theorem RP.item {ks : List St} {ls : List Ln} {J : List Int} (h : RP ks ls J) {i : Nat} (hi : i < ls.length) : 0 ≤ J.getD i 0 ∧ J.getD i 0 < ((ks.getD (ls.getD i ln0).kind.toNat st0).items.toNat : Int) := by
  obtain ⟨j, h1, h2, _⟩ := h.rt i (by omega) (by rw [h.len]; exact hi)
  unfold cS at h1
  omega
theorem RP.chk {ks : List St} {ls : List Ln} {J : List Int} (h : RP ks ls J) (hc : chkE ks ls = 0) : chk2E ks ls J = 0 := by
  have hv := chkE_ok hc
  have hb : checkB ks ls = true := by rw [← chkE_ne, hc]; rfl
  unfold chk2E
  rw [if_pos hb, if_pos]
  unfold planB
  rw [decide_eq_true h.len, Bool.true_and]
  refine range_all fun i hi => ?_
  rw [h.len] at hi
  have h1 := h.item hi
  have h2 := hv.st (ls.getD i ln0).kind.toNat (by have := (hv.ln i hi).1; omega)
  unfold plB
  rw [wi_iff]; omega
theorem srch_rp {ks : List St} {ls : List Ln} {J : List Int} (h : srch (cS ks ls) (okS ks ls) ls.length [] = some J) : RP ks ls J := by
  obtain ⟨⟨h1, _, h3⟩, _⟩ := srch_some h
  exact ⟨by simpa using h1, h3⟩
theorem wear_kind {ks : List St} {ls : List Ln} {J : List Int} (h : RP ks ls J) {k : Nat} {n j : Nat} (hn : j < n) : ∀ i, i ≤ ls.length → (wearP ls J (k : Int) n i).getD j 0 = sW (uL ls (loanP ls (k : Int) ls.length)) (pick (loanP ls (k : Int) ls.length) J) (j : Int) (plc ls (k : Int) i)
  | 0, _ => by simp [wearP, hn, plc, loanP, sW]
  | i + 1, hi => by
    have ih := wear_kind h (k := k) hn i (by omega)
    have hwl := wearP_len ls J (k : Int) n i
    rw [plc_succ]
    simp only [wearP, wearS]
    by_cases hk : (ls.getD i ln0).kind = (k : Int)
    · obtain ⟨h1, h2⟩ := loanP_at (N := ls.length) (by omega) hk
      have h3 := (h.item (i := i) (by omega)).1
      rw [if_pos hk, decide_eq_true hk, decide_eq_true h3, if_pos (by rfl)]
      simp only [sW]
      rw [pick_get h1, h2, Int.toNat_natCast]
      have hu : uL ls (loanP ls (k : Int) ls.length) (plc ls (k : Int) i) = (ls.getD i ln0).uses := by unfold uL; rw [h2, Int.toNat_natCast]
      by_cases hj : J.getD i 0 = (j : Int)
      · rw [if_pos hj, hj, Int.toNat_natCast, ← ih, hu]
        simp [hwl, hn]
      · rw [if_neg hj, ← ih]
        have : (J.getD i 0).toNat ≠ j := by omega
        generalize (J.getD i 0).toNat = a at this
        rw [List.getD_eq_getElem?_getD, List.getElem?_set_ne this, ← List.getD_eq_getElem?_getD]
    · rw [if_neg hk, if_neg (by rw [decide_eq_false hk]; simp)]; exact ih
/-- the uses of the loans of a kind -/
def usP (ls : List Ln) (k : Int) : Nat → Int
  | 0 => 0
  | i + 1 => if (ls.getD i ln0).kind = k then usP ls k i + (ls.getD i ln0).uses else usP ls k i
theorem usP_sum (ls : List Ln) (k : Nat) : ∀ i, i ≤ ls.length → usP ls (k : Int) i = sumN (uL ls (loanP ls (k : Int) ls.length)) (plc ls (k : Int) i)
  | 0, _ => rfl
  | i + 1, hi => by
    have ih := usP_sum ls k i (by omega)
    rw [plc_succ]
    simp only [usP]
    by_cases hk : (ls.getD i ln0).kind = (k : Int)
    · obtain ⟨h1, h2⟩ := loanP_at (N := ls.length) (by omega) hk
      rw [if_pos hk, if_pos hk]
      simp only [sumN]
      rw [ih]
      unfold uL; rw [h2, Int.toNat_natCast]
    · rw [if_neg hk, if_neg hk]; exact ih
/-- the wear of all items of a kind, together -/
def smL (l : List Int) : Nat → Int
  | 0 => 0
  | i + 1 => smL l i + l.getD i 0
theorem smL_sum {l : List Int} {f : Nat → Int} : ∀ {n : Nat}, (∀ j, j < n → l.getD j 0 = f j) → smL l n = sumN f n
  | 0, _ => rfl
  | n + 1, h => by simp only [smL, sumN, smL_sum (n := n) (fun j hj => h j (by omega)), h n (by omega)]
theorem wear_sum {ks : List St} {ls : List Ln} {J : List Int} (hv : SV ks ls) (h : RP ks ls J) {k : Nat} (hk : k < ks.length) : smL (wearP ls J (k : Int) (ks.getD k st0).items.toNat ls.length) (ks.getD k st0).items.toNat = usP ls (k : Int) ls.length := by
  rw [smL_sum (fun j hj => wear_kind h hj ls.length (Nat.le_refl _)), usP_sum ls k ls.length (Nat.le_refl _)]
  have hpl := pick_len (loanP ls (k : Int) ls.length) J
  have h2 := (right_kinds hv h.len).1 h.rt k hk
  exact sum_split (fun q hq => by obtain ⟨j, h3, h4, _⟩ := h2 q (by omega) hq; exact ⟨j, h3, h4⟩) _ (by rw [hpl]; exact Nat.le_refl _)
theorem wear_life {ks : List St} {ls : List Ln} {J : List Int} (hv : SV ks ls) (h : RP ks ls J) {k : Nat} (hk : k < ks.length) {j : Nat} (hj : j < (ks.getD k st0).items.toNat) : 0 ≤ (wearP ls J (k : Int) (ks.getD k st0).items.toNat ls.length).getD j 0 ∧ (wearP ls J (k : Int) (ks.getD k st0).items.toNat ls.length).getD j 0 ≤ (ks.getD k st0).life := by
  rw [wear_kind h hj ls.length (Nat.le_refl _)]
  have h2 := (right_kinds hv h.len).1 h.rt k hk
  refine ⟨(sW_bd (uL_bd hv _) _ _ _).1, right_uses (by have := hv.st k hk; omega) h2 _ ?_ _⟩
  rw [pick_len]; exact Nat.le_refl _
theorem wnP_mem {ks : List St} {ls : List Ln} {plan : List Int} {k i : Nat} (hi : i < (ks.getD k st0).items.toNat) : ∀ {n : Nat}, ((k : Int), (i : Int)) ∈ wnP ks ls plan n ↔ k < n ∧ (ks.getD k st0).life ≤ (wearP ls plan (k : Int) (ks.getD k st0).items.toNat ls.length).getD i 0
  | 0 => by simp [wnP]
  | n + 1 => by
    have ih := wnP_mem (ks := ks) (ls := ls) (plan := plan) hi (n := n)
    simp only [wnP, List.mem_append, ih]
    unfold wnI
    simp only [List.mem_map, List.mem_filter, List.mem_range, decide_eq_true_eq, Prod.mk.injEq]
    constructor
    · rintro (⟨h1, h2⟩ | ⟨a, ⟨h1, h2⟩, h3, h4⟩)
      · exact ⟨by omega, h2⟩
      · obtain rfl : n = k := by omega
        obtain rfl : a = i := by omega
        exact ⟨by omega, h2⟩
    · rintro ⟨h1, h2⟩
      by_cases hkn : k = n
      · subst hkn
        exact .inr ⟨i, ⟨hi, h2⟩, rfl, rfl⟩
      · exact .inl ⟨by omega, h2⟩
/-- the items of Worn are just those that are used up -/
theorem worn_iff {ks : List St} {ls : List Ln} {J : List Int} (hv : SV ks ls) (h : RP ks ls J) {k : Nat} (hk : k < ks.length) {j : Nat} (hj : j < (ks.getD k st0).items.toNat) : ((wnP ks ls J ks.length).any fun p => decide (p.1 = (k : Int)) && decide (p.2 = (j : Int))) = decide ((wearP ls J (k : Int) (ks.getD k st0).items.toNat ls.length).getD j 0 = (ks.getD k st0).life) := by
  have h1 := wnP_mem (ks := ks) (ls := ls) (plan := J) hj (n := ks.length)
  have h2 := (wear_life hv h hk hj).2
  rw [Bool.eq_iff_iff, List.any_eq_true, decide_eq_true_eq]
  constructor
  · rintro ⟨⟨a, b⟩, hp, hq⟩
    simp only [Bool.and_eq_true, decide_eq_true_eq] at hq
    obtain ⟨rfl, rfl⟩ := hq
    have := (h1.1 hp).2
    omega
  · intro he
    exact ⟨((k : Int), (j : Int)), h1.2 ⟨hk, by omega⟩, by simp⟩
end Go.Proofs.Try
