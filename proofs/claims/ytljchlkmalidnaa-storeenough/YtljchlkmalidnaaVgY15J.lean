/- A part of the proof of StoreEnough: contracts of functions, with plain laws that they need. -/
import Derived.Test.YtljchlkmalidnaaVgFz
import Derived.Test.YtljchlkmalidnaaVgAp
import Derived.Test.YtljchlkmalidnaaVgEd
import Derived.Test.YtljchlkmalidnaaVgT
import Derived.Test.YtljchlkmalidnaaVgNl
import Derived.Test.YtljchlkmalidnaaVgY12J
set_option linter.all false
set_option maxHeartbeats 8000000
namespace Go.Proofs.Try
open Go.Vg

/-! several benches in memory -/
mutual
theorem shift_ok (M : Nat) : ∀ (x : AV), x.ok 0 → x.shift M = x
  | .val _, _ => rfl
  | .any, _ => rfl
  | .lst _ l, h => by simp only [AV.shift, shiftL_ok M l h]
  | .osl id _ _ _, h => absurd h (Nat.not_lt_zero id)
  | .emp, _ => rfl
  | .ref xs _, h => by simp only [AV.shift, shiftL_ok M xs h]
  | .optr id _ _ _, h => absurd h (Nat.not_lt_zero id)
  | .agg xs, h => by simp only [AV.shift, shiftL_ok M xs h]
  | .tup xs, h => by simp only [AV.shift, shiftL_ok M xs h]
  | .clo _ xs, h => by simp only [AV.shift, shiftL_ok M xs h]
  | .bnd _ xs, h => by simp only [AV.shift, shiftL_ok M xs h]
  | .opt _ x, h => by simp only [AV.shift, shift_ok M x h]
  | .yld id _, h => absurd h (Nat.not_lt_zero id)
theorem shiftL_ok (M : Nat) : ∀ (l : List AV), okL 0 l → shiftL M l = l
  | [], _ => rfl
  | x :: l, h => by simp only [shiftL, shift_ok M x h.1, shiftL_ok M l h.2]
end
theorem shiftL_lentR (M : Nat) : ∀ (T : List (Nat × List Int)) (k : Nat), shiftL M (lentR 0 k T) = lentR M k T
  | [], _ => rfl
  | t :: T, k => by simp only [lentR, shiftL, AV.shift, shiftL_lentR M T (k + 1), Nat.zero_add]
abbrev shE (M : Nat) (e : Ent) : Ent := ⟨e.ver, e.kind.shift M⟩
theorem blk_shift (M : Nat) {ks : List St} {ls : List Ln} {e4 : Ent} {life : Int} {L I W : List Int} {vi : Nat} {T : List (Nat × List Int)} :
    (blk 0 ks ls ⟨0, .row 2 [storA ks ls]⟩ e4 life L vi I W T []).map (shE M) = blk M ks ls ⟨0, .row 2 [storA ks ls]⟩ (shE M e4) life L vi I W T [] := by
  have h1 : ∀ l : List Int, shiftL M (l.map AV.int) = l.map AV.int := fun l => shiftL_ok M _ (by simp only [push_cast])
  have h2 : shiftL M (ks.map stA) = ks.map stA := shiftL_ok M _ (by simp only [push_cast])
  have h3 : shiftL M (ls.map lnA) = ls.map lnA := shiftL_ok M _ (by simp only [push_cast])
  have h4 : (T.map lentE).map (shE M) = T.map lentE := by
    rw [List.map_map]
    exact List.map_congr_left fun t _ => by simp [lentE, shE, Kind.shift, h1]
  simp only [blk, benR, List.map_cons, List.map_append, h4, List.map_nil]
  simp [shE, Kind.shift, shiftL, AV.shift, h1, h2, h3, shiftL_lentR]
structure Bn where
  e4 : Ent
  vi : Nat
  I : List Int
  W : List Int
  T : List (Nat × List Int)
end Go.Proofs.Try
set_option maxHeartbeats 8000000
namespace Go.Proofs.Try
open Go.Vg

/-! whether so many items are enough -/
theorem loanP_mem {ls : List Ln} {kind : Int} {k : Nat} : ∀ x ∈ loanP ls kind k, ∃ i : Nat, x = (i : Int) ∧ i < k ∧ (ls.getD i ln0).kind = kind := by
  intro x hx
  unfold loanP at hx
  rw [List.mem_map] at hx
  obtain ⟨i, hi, rfl⟩ := hx
  rw [List.mem_filter, List.mem_range] at hi
  exact ⟨i, rfl, hi.1, of_decide_eq_true hi.2⟩
theorem loanP_in (ls : List Ln) (kind : Int) : ∀ x ∈ loanP ls kind ls.length, 0 ≤ x ∧ x < (ls.length : Int) := fun x hx => by
  obtain ⟨i, rfl, h, _⟩ := loanP_mem x hx; omega
theorem uL_bd {ks : List St} {ls : List Ln} (hv : SV ks ls) (L : List Int) (i : Nat) : 0 ≤ uL ls L i ∧ uL ls L i ≤ 100 := by
  unfold uL
  by_cases h : (L.getD i 0).toNat < ls.length
  · have := (hv.ln _ h).2.2; omega
  · have : ls.getD (L.getD i 0).toNat ln0 = ln0 := by
      generalize (L.getD i 0).toNat = k at h
      rw [List.getD_eq_getElem?_getD, List.getElem?_eq_none (by omega)]; rfl
    rw [this]; decide
theorem sumN_bd {u : Nat → Int} (h : ∀ i, 0 ≤ u i ∧ u i ≤ 100) : ∀ k : Nat, 0 ≤ sumN u k ∧ sumN u k ≤ 100 * (k : Int)
  | 0 => by simp [sumN]
  | k + 1 => by have := sumN_bd h k; have := h k; simp only [sumN]; omega
abbrev exB (ls : List Ln) (life kind : Int) (n : Nat) : Bool := (srch (fun _ => n) (okK ls life (loanP ls kind ls.length)) (loanP ls kind ls.length).length []).isSome
def psV (ks : List St) (ls : List Ln) (kind items : Int) : Bool := decide (pkP ls kind ls.length ≤ items) && (decide (sumN (uL ls (loanP ls kind ls.length)) (loanP ls kind ls.length).length ≤ items * (ks.getD kind.toNat st0).life) && exB ls (ks.getD kind.toNat st0).life kind items.toNat)
theorem mul_bd8 {a b : Int} (h1 : 0 ≤ a ∧ a ≤ 100) (h2 : 0 ≤ b ∧ b ≤ 100) : 0 ≤ a * b ∧ a * b ≤ 10000 := by
  refine ⟨Int.mul_nonneg h1.1 h2.1, ?_⟩
  have := Int.mul_le_mul h1.2 h2.2 h2.1 (by omega : (0 : Int) ≤ 100)
  omega
theorem possible_pure {ks : List St} {ls : List Ln} (hv : SV ks ls) (kind items : Int) (hk : 0 ≤ kind ∧ kind < ks.length) (hi : 0 ≤ items ∧ items ≤ 100) : Pure Try.prog 57 [storA ks ls, .int kind, .int items] (.bool (psV ks ls kind items)) := by
  have hl20 := hv.l20
  have hst := hv.st kind.toNat (by omega)
  have hnb := newBench_spec hv kind items hk hi
  have hpk := peak_pure hv kind
  have hpb := pkP_bd ls kind ls.length
  have hub := fun k => sumN_bd (uL_bd hv (loanP ls kind ls.length)) k
  have hus : ∀ k, sumN (uL ls (loanP ls kind ls.length)) (k + 1) = sumN (uL ls (loanP ls kind ls.length)) k + uL ls (loanP ls kind ls.length) k := fun _ => rfl
  have hu0 : sumN (uL ls (loanP ls kind ls.length)) 0 = 0 := rfl
  have huk : ∀ k, uL ls (loanP ls kind ls.length) k = (ls.getD ((loanP ls kind ls.length).getD k 0).toNat ln0).uses := fun _ => rfl
  have hLl := loanP_len ls kind ls.length
  have hLi := loanP_in ls kind
  have hfs := fun e4 => first_spec hv (ks.getD kind.toNat st0).life hLi (by omega) (n := items.toNat) (by omega) (loanP ls kind ls.length).length (F := [⟨0, .row 2 [storA ks ls]⟩]) (G := []) (N := 1) rfl (e0 := ⟨0, .row 2 [storA ks ls]⟩) (e4 := e4) (vi := 0) (I := []) (T := T0 items.toNat) (by simp) (by simp) (fun a b _ h => by simp at h) (tO_nil (loanP ls kind ls.length) items.toNat)
  have hw0 := wO_nil ls (loanP ls kind ls.length) items.toNat
  rw [hw0] at hfs
  unfold psV exB
  generalize hL : loanP ls kind ls.length = L at *
  generalize hy : ks.getD kind.toNat st0 = y at *
  generalize pkP ls kind ls.length = pk at *
  have hzb := mul_bd8 hi (⟨by omega, by omega⟩ : 0 ≤ y.life ∧ y.life ≤ 100)
  generalize hz : items * y.life = z at hzb
  generalize hsu : sumN (uL ls L) = su at *
  (refine Spec.of_body Try.func57 rfl (by rw [Try.ntmps57]; simp) 0 (by simp) ?_; rw [Try.results57, Try.ntmps57]; simp only [entry, zipArgs, Nat.reduceAdd])
  repeat (first | apply Wp.seq | apply Wp.block | (apply Run.next; (simp only [push_cast, seval, hz, hy] <;> (try simp (disch := omega) only [wI, wU, wC]) <;> exact rfl); (focus ((try simp only [push_cast, seval, hz, hy]) <;> exact sT))) | ((first | apply Run.nil | apply Wp.skip); dsimp only [sQ, tQ, bQ]) | (apply Wp.run; (dsimp only [List.map] <;> exact rfl); exact rfl) | (apply Wp.exit; dsimp only [sQ, tQ, bQ]; simp only [reduceIte]))
  apply Run.fresh (he := Enters.of Try.func67 rfl rfl)
  focus (simp only [push_cast, seval, hz, hy] <;> exact rfl)
  focus (simp only [push_cast, seval, hz, hy] <;> (try simp (disch := omega) only [wI, wU, wC]) <;> exact rfl)
  exact hnb
  focus (focus (simp only [push_cast, seval, hz, hy] <;> first | trivial | assumption | (refine ⟨?_, ?_⟩ <;> assumption) | (simp; done)))
  rintro x m' ⟨rfl, e4, rfl⟩
  have hsh := blk_shift 1 (ks := ks) (ls := ls) (e4 := e4) (life := y.life) (L := L) (vi := 0) (I := []) (W := List.replicate items.toNat 0) (T := T0 items.toNat)
  simp only [shE] at hsh
  simp only [List.length_cons, List.cons_append, List.nil_append, List.length_nil, Nat.zero_add]
  rw [hsh]
  generalize hE4 : (⟨e4.ver, e4.kind.shift 1⟩ : Ent) = e5
  dsimp only [AV.shift]
  dsimp only [S.put, optG]
  repeat (first | apply Wp.seq | apply Wp.block | (apply Run.next; (simp only [push_cast, seval, hz, hy] <;> (try simp (disch := omega) only [wI, wU, wC]) <;> exact rfl); (focus ((try simp only [push_cast, seval, hz, hy]) <;> exact sT))) | ((first | apply Run.nil | apply Wp.skip); dsimp only [sQ, tQ, bQ]) | (apply Wp.run; (dsimp only [List.map] <;> exact rfl); exact rfl) | (apply Wp.exit; dsimp only [sQ, tQ, bQ]; simp only [reduceIte]))
  refine Wp.loop (fun (k : Nat) => { t := [(1, .int kind), (2, .int items), (3, .optr 0 0 0 0), (7, .optr 4 1 0 0), (8, .int (su k)), (18, .osl 6 L.length 0 L.length), (19, .int L.length), (20, .int k)], m := ⟨0, .row 2 [storA ks ls]⟩ :: blk 1 ks ls ⟨0, .row 2 [storA ks ls]⟩ e5 y.life L 0 [] (List.replicate items.toNat 0) (T0 items.toNat) [], n := 52 }) (fun k => k ≤ L.length) (fun k => L.length - k) 0 ?_ ?_ ?_
  · rw [hu0]
    (refine Le.of ?_ ?_ rfl rfl <;> (try simp only [push_cast, seval, hz, hy]) <;> (try (with_reducible rfl)))
    all_goals rfl
  · simp
  · intro k hk1
    have hsk := hub k
    have huk1 := hus k
    have huk2 := huk k
    generalize hs : su k = s at hsk huk1
    repeat (first | apply Wp.seq | apply Wp.block | (apply Run.next; (simp only [push_cast, seval, hz, hy] <;> (try simp (disch := omega) only [wI, wU, wC]) <;> exact rfl); (focus ((try simp only [push_cast, seval, hz, hy]) <;> exact sT))) | ((first | apply Run.nil | apply Wp.skip); dsimp only [sQ, tQ, bQ]) | (apply Wp.run; (dsimp only [List.map] <;> exact rfl); exact rfl) | (apply Wp.exit; dsimp only [sQ, tQ, bQ]; simp only [reduceIte]))
    (apply Wp.cond; (simp only [push_cast, seval, hz, hy] <;> (try simp (disch := omega) only [wI, wU, wC]) <;> exact rfl))
    · intro hc
      simp only [decide_eq_true_eq, Int.ofNat_lt] at hc
      have hlo : 0 ≤ L.getD k 0 ∧ L.getD k 0 < (ls.length : Int) := hLi _ (by simp [hc])
      generalize hlv : L.getD k 0 = loan at hlo huk2
      have hlu := (hv.ln loan.toNat (by omega)).2.2
      generalize hx : ls.getD loan.toNat ln0 = x at hlu huk2
      rw [huk2] at huk1
      repeat (first | apply Wp.seq | apply Wp.block | (apply Run.next; (simp only [push_cast, seval, hz, hy, hlv, hx] <;> (try simp (disch := omega) only [wI, wU, wC]) <;> exact rfl); (focus ((try simp only [push_cast, seval, hz, hy, hlv, hx]) <;> exact sT))) | ((first | apply Run.nil | apply Wp.skip); dsimp only [sQ, tQ, bQ]) | (apply Wp.run; (dsimp only [List.map] <;> exact rfl); exact rfl) | (apply Wp.exit; dsimp only [sQ, tQ, bQ]; simp only [reduceIte]))
      refine ⟨k + 1, ?_, by omega, by omega⟩
      rw [huk1]
      (refine Le.of ?_ ?_ rfl rfl <;> (try simp only [push_cast, seval, hz, hy, hlv, hx]) <;> (try (with_reducible rfl)))
    · intro hc
      simp only [decide_eq_false_iff_not, Int.ofNat_lt] at hc
      obtain rfl : k = L.length := by omega
      rw [hs]
      cases hA : decide (pk ≤ items) with
      | false =>
        repeat (first | apply Wp.seq | apply Wp.block | (apply Run.next; (simp only [push_cast, seval, hz, hy, hA] <;> (try simp (disch := omega) only [wI, wU, wC]) <;> exact rfl); (focus ((try simp only [push_cast, seval, hz, hy, hA]) <;> exact sT))) | ((first | apply Run.nil | apply Wp.skip); dsimp only [sQ, tQ, bQ]) | (apply Wp.run; (dsimp only [List.map] <;> exact rfl); exact rfl) | (apply Wp.exit; dsimp only [sQ, tQ, bQ]; simp only [reduceIte]) | (apply Run.gtrue; (simp only [push_cast, seval, hz, hy, hA] <;> (try simp (disch := omega) only [wI, wU, wC]) <;> exact rfl); (simp only [push_cast, seval, hz, hy, hA] <;> (try simp (disch := omega) only [wI, wU, wC]) <;> exact rfl)) | (apply Run.gfalse (.bool false); (simp only [push_cast, seval, hz, hy, hA] <;> (try simp (disch := omega) only [wI, wU, wC]) <;> exact rfl); dsimp only [S.put, optG]) | (apply Wp.condT; (simp only [push_cast, seval, hz, hy, hA] <;> (try simp (disch := omega) only [wI, wU, wC]) <;> exact rfl)) | (apply Wp.condF; (simp only [push_cast, seval, hz, hy, hA] <;> (try simp (disch := omega) only [wI, wU, wC]) <;> exact rfl)))
        (apply Run.pureP; (simp only [push_cast, seval, hz, hy, hA] <;> (try simp (disch := omega) only [wI, wU, wC]) <;> exact rfl); (exact (Enters.of Try.func50 rfl rfl)); (exact hpk); (focus (simp only [push_cast, seval, hz, hy, hA] <;> first | trivial | assumption | (refine ⟨?_, ?_⟩ <;> assumption) | (simp; done))); (try dsimp only [putA, optG]))
        repeat (first | apply Wp.seq | apply Wp.block | (apply Run.next; (simp only [push_cast, seval, hz, hy, hA] <;> (try simp (disch := omega) only [wI, wU, wC]) <;> exact rfl); (focus ((try simp only [push_cast, seval, hz, hy, hA]) <;> exact sT))) | ((first | apply Run.nil | apply Wp.skip); dsimp only [sQ, tQ, bQ]) | (apply Wp.run; (dsimp only [List.map] <;> exact rfl); exact rfl) | (apply Wp.exit; dsimp only [sQ, tQ, bQ]; simp only [reduceIte]) | (apply Run.gtrue; (simp only [push_cast, seval, hz, hy, hA] <;> (try simp (disch := omega) only [wI, wU, wC]) <;> exact rfl); (simp only [push_cast, seval, hz, hy, hA] <;> (try simp (disch := omega) only [wI, wU, wC]) <;> exact rfl)) | (apply Run.gfalse (.bool false); (simp only [push_cast, seval, hz, hy, hA] <;> (try simp (disch := omega) only [wI, wU, wC]) <;> exact rfl); dsimp only [S.put, optG]) | (apply Wp.condT; (simp only [push_cast, seval, hz, hy, hA] <;> (try simp (disch := omega) only [wI, wU, wC]) <;> exact rfl)) | (apply Wp.condF; (simp only [push_cast, seval, hz, hy, hA] <;> (try simp (disch := omega) only [wI, wU, wC]) <;> exact rfl)))
        (apply Wp.ret; (try dsimp only [sQ, tQ, bQ]); apply leave0; exact rfl; (simp only [push_cast, seval, hz, hy, hA] <;> (try simp (disch := omega) only [wI, wU, wC]) <;> exact rfl); all_goals (try simp only [push_cast, seval, hz, hy, hA]); (try rfl))
      | true =>
        cases hB : decide (s ≤ z) with
        | false =>
          repeat (first | apply Wp.seq | apply Wp.block | (apply Run.next; (simp only [push_cast, seval, hz, hy, hA, hB] <;> (try simp (disch := omega) only [wI, wU, wC]) <;> exact rfl); (focus ((try simp only [push_cast, seval, hz, hy, hA, hB]) <;> exact sT))) | ((first | apply Run.nil | apply Wp.skip); dsimp only [sQ, tQ, bQ]) | (apply Wp.run; (dsimp only [List.map] <;> exact rfl); exact rfl) | (apply Wp.exit; dsimp only [sQ, tQ, bQ]; simp only [reduceIte]) | (apply Run.gtrue; (simp only [push_cast, seval, hz, hy, hA, hB] <;> (try simp (disch := omega) only [wI, wU, wC]) <;> exact rfl); (simp only [push_cast, seval, hz, hy, hA, hB] <;> (try simp (disch := omega) only [wI, wU, wC]) <;> exact rfl)) | (apply Run.gfalse (.bool false); (simp only [push_cast, seval, hz, hy, hA, hB] <;> (try simp (disch := omega) only [wI, wU, wC]) <;> exact rfl); dsimp only [S.put, optG]) | (apply Wp.condT; (simp only [push_cast, seval, hz, hy, hA, hB] <;> (try simp (disch := omega) only [wI, wU, wC]) <;> exact rfl)) | (apply Wp.condF; (simp only [push_cast, seval, hz, hy, hA, hB] <;> (try simp (disch := omega) only [wI, wU, wC]) <;> exact rfl)))
          (apply Run.pureP; (simp only [push_cast, seval, hz, hy, hA, hB] <;> (try simp (disch := omega) only [wI, wU, wC]) <;> exact rfl); (exact (Enters.of Try.func50 rfl rfl)); (exact hpk); (focus (simp only [push_cast, seval, hz, hy, hA, hB] <;> first | trivial | assumption | (refine ⟨?_, ?_⟩ <;> assumption) | (simp; done))); (try dsimp only [putA, optG]))
          repeat (first | apply Wp.seq | apply Wp.block | (apply Run.next; (simp only [push_cast, seval, hz, hy, hA, hB] <;> (try simp (disch := omega) only [wI, wU, wC]) <;> exact rfl); (focus ((try simp only [push_cast, seval, hz, hy, hA, hB]) <;> exact sT))) | ((first | apply Run.nil | apply Wp.skip); dsimp only [sQ, tQ, bQ]) | (apply Wp.run; (dsimp only [List.map] <;> exact rfl); exact rfl) | (apply Wp.exit; dsimp only [sQ, tQ, bQ]; simp only [reduceIte]) | (apply Run.gtrue; (simp only [push_cast, seval, hz, hy, hA, hB] <;> (try simp (disch := omega) only [wI, wU, wC]) <;> exact rfl); (simp only [push_cast, seval, hz, hy, hA, hB] <;> (try simp (disch := omega) only [wI, wU, wC]) <;> exact rfl)) | (apply Run.gfalse (.bool false); (simp only [push_cast, seval, hz, hy, hA, hB] <;> (try simp (disch := omega) only [wI, wU, wC]) <;> exact rfl); dsimp only [S.put, optG]) | (apply Wp.condT; (simp only [push_cast, seval, hz, hy, hA, hB] <;> (try simp (disch := omega) only [wI, wU, wC]) <;> exact rfl)) | (apply Wp.condF; (simp only [push_cast, seval, hz, hy, hA, hB] <;> (try simp (disch := omega) only [wI, wU, wC]) <;> exact rfl)))
          (apply Wp.ret; (try dsimp only [sQ, tQ, bQ]); apply leave0; exact rfl; (simp only [push_cast, seval, hz, hy, hA, hB] <;> (try simp (disch := omega) only [wI, wU, wC]) <;> exact rfl); all_goals (try simp only [push_cast, seval, hz, hy, hA, hB]); (try rfl))
        | true =>
          have hfe := hfs e5
          generalize srch (fun _ => items.toNat) (okK ls y.life L) L.length [] = sr at hfe
          repeat (first | apply Wp.seq | apply Wp.block | (apply Run.next; (simp only [push_cast, seval, hz, hy, hA, hB] <;> (try simp (disch := omega) only [wI, wU, wC]) <;> exact rfl); (focus ((try simp only [push_cast, seval, hz, hy, hA, hB]) <;> exact sT))) | ((first | apply Run.nil | apply Wp.skip); dsimp only [sQ, tQ, bQ]) | (apply Wp.run; (dsimp only [List.map] <;> exact rfl); exact rfl) | (apply Wp.exit; dsimp only [sQ, tQ, bQ]; simp only [reduceIte]) | (apply Run.gtrue; (simp only [push_cast, seval, hz, hy, hA, hB] <;> (try simp (disch := omega) only [wI, wU, wC]) <;> exact rfl); (simp only [push_cast, seval, hz, hy, hA, hB] <;> (try simp (disch := omega) only [wI, wU, wC]) <;> exact rfl)) | (apply Run.gfalse (.bool false); (simp only [push_cast, seval, hz, hy, hA, hB] <;> (try simp (disch := omega) only [wI, wU, wC]) <;> exact rfl); dsimp only [S.put, optG]) | (apply Wp.condT; (simp only [push_cast, seval, hz, hy, hA, hB] <;> (try simp (disch := omega) only [wI, wU, wC]) <;> exact rfl)) | (apply Wp.condF; (simp only [push_cast, seval, hz, hy, hA, hB] <;> (try simp (disch := omega) only [wI, wU, wC]) <;> exact rfl)))
          (apply Run.pureP; (simp only [push_cast, seval, hz, hy, hA, hB] <;> (try simp (disch := omega) only [wI, wU, wC]) <;> exact rfl); (exact (Enters.of Try.func50 rfl rfl)); (exact hpk); (focus (simp only [push_cast, seval, hz, hy, hA, hB] <;> first | trivial | assumption | (refine ⟨?_, ?_⟩ <;> assumption) | (simp; done))); (try dsimp only [putA, optG]))
          repeat (first | apply Wp.seq | apply Wp.block | (apply Run.next; (simp only [push_cast, seval, hz, hy, hA, hB] <;> (try simp (disch := omega) only [wI, wU, wC]) <;> exact rfl); (focus ((try simp only [push_cast, seval, hz, hy, hA, hB]) <;> exact sT))) | ((first | apply Run.nil | apply Wp.skip); dsimp only [sQ, tQ, bQ]) | (apply Wp.run; (dsimp only [List.map] <;> exact rfl); exact rfl) | (apply Wp.exit; dsimp only [sQ, tQ, bQ]; simp only [reduceIte]) | (apply Run.gtrue; (simp only [push_cast, seval, hz, hy, hA, hB] <;> (try simp (disch := omega) only [wI, wU, wC]) <;> exact rfl); (simp only [push_cast, seval, hz, hy, hA, hB] <;> (try simp (disch := omega) only [wI, wU, wC]) <;> exact rfl)) | (apply Run.gfalse (.bool false); (simp only [push_cast, seval, hz, hy, hA, hB] <;> (try simp (disch := omega) only [wI, wU, wC]) <;> exact rfl); dsimp only [S.put, optG]) | (apply Wp.condT; (simp only [push_cast, seval, hz, hy, hA, hB] <;> (try simp (disch := omega) only [wI, wU, wC]) <;> exact rfl)) | (apply Wp.condF; (simp only [push_cast, seval, hz, hy, hA, hB] <;> (try simp (disch := omega) only [wI, wU, wC]) <;> exact rfl)))
          apply Run.spec (he := Enters.of Try.func58 rfl rfl) (hc := hfe)
          focus exact rfl
          focus (simp only [push_cast, seval, hz, hy, hA, hB] <;> exact rfl)
          focus (simp only [push_cast, seval, hz, hy, hA, hB] <;> (try simp (disch := omega) only [wI, wU, wC]) <;> exact rfl)
          rintro x' m' ⟨v2, U2, ⟨J, h1, rfl, h2, rfl⟩ | ⟨h1, rfl, h2, rfl⟩⟩
          · subst h1
            dsimp only [S.put, optG]
            repeat (first | apply Wp.seq | apply Wp.block | (apply Run.next; (simp only [push_cast, seval, hz, hy, hA, hB] <;> (try simp (disch := omega) only [wI, wU, wC]) <;> exact rfl); (focus ((try simp only [push_cast, seval, hz, hy, hA, hB]) <;> exact sT))) | ((first | apply Run.nil | apply Wp.skip); dsimp only [sQ, tQ, bQ]) | (apply Wp.run; (dsimp only [List.map] <;> exact rfl); exact rfl) | (apply Wp.exit; dsimp only [sQ, tQ, bQ]; simp only [reduceIte]) | (apply Run.gtrue; (simp only [push_cast, seval, hz, hy, hA, hB] <;> (try simp (disch := omega) only [wI, wU, wC]) <;> exact rfl); (simp only [push_cast, seval, hz, hy, hA, hB] <;> (try simp (disch := omega) only [wI, wU, wC]) <;> exact rfl)) | (apply Run.gfalse (.bool false); (simp only [push_cast, seval, hz, hy, hA, hB] <;> (try simp (disch := omega) only [wI, wU, wC]) <;> exact rfl); dsimp only [S.put, optG]) | (apply Wp.condT; (simp only [push_cast, seval, hz, hy, hA, hB] <;> (try simp (disch := omega) only [wI, wU, wC]) <;> exact rfl)) | (apply Wp.condF; (simp only [push_cast, seval, hz, hy, hA, hB] <;> (try simp (disch := omega) only [wI, wU, wC]) <;> exact rfl)))
            (apply Wp.ret; (try dsimp only [sQ, tQ, bQ]); apply leave0; exact rfl; (simp only [push_cast, seval, hz, hy, hA, hB] <;> (try simp (disch := omega) only [wI, wU, wC]) <;> exact rfl); all_goals (try simp only [push_cast, seval, hz, hy, hA, hB]); (try rfl))
          · subst h1
            dsimp only [S.put, optG]
            repeat (first | apply Wp.seq | apply Wp.block | (apply Run.next; (simp only [push_cast, seval, hz, hy, hA, hB] <;> (try simp (disch := omega) only [wI, wU, wC]) <;> exact rfl); (focus ((try simp only [push_cast, seval, hz, hy, hA, hB]) <;> exact sT))) | ((first | apply Run.nil | apply Wp.skip); dsimp only [sQ, tQ, bQ]) | (apply Wp.run; (dsimp only [List.map] <;> exact rfl); exact rfl) | (apply Wp.exit; dsimp only [sQ, tQ, bQ]; simp only [reduceIte]) | (apply Run.gtrue; (simp only [push_cast, seval, hz, hy, hA, hB] <;> (try simp (disch := omega) only [wI, wU, wC]) <;> exact rfl); (simp only [push_cast, seval, hz, hy, hA, hB] <;> (try simp (disch := omega) only [wI, wU, wC]) <;> exact rfl)) | (apply Run.gfalse (.bool false); (simp only [push_cast, seval, hz, hy, hA, hB] <;> (try simp (disch := omega) only [wI, wU, wC]) <;> exact rfl); dsimp only [S.put, optG]) | (apply Wp.condT; (simp only [push_cast, seval, hz, hy, hA, hB] <;> (try simp (disch := omega) only [wI, wU, wC]) <;> exact rfl)) | (apply Wp.condF; (simp only [push_cast, seval, hz, hy, hA, hB] <;> (try simp (disch := omega) only [wI, wU, wC]) <;> exact rfl)))
            (apply Wp.ret; (try dsimp only [sQ, tQ, bQ]); apply leave0; exact rfl; (simp only [push_cast, seval, hz, hy, hA, hB] <;> (try simp (disch := omega) only [wI, wU, wC]) <;> exact rfl); all_goals (try simp only [push_cast, seval, hz, hy, hA, hB]); (try rfl))
end Go.Proofs.Try
set_option maxHeartbeats 8000000
namespace Go.Proofs.Try
open Go.Vg

/-! how many items are needed -/
theorem cntN_congr {p q : Nat → Bool} : ∀ {n : Nat}, (∀ k, k < n → p k = q k) → cntN p n = cntN q n
  | 0, _ => rfl
  | n + 1, h => by simp only [cntN, cntN_congr (n := n) (fun k hk => h k (by omega)), h n (by omega)]
theorem cnt_loanP (ls : List Ln) (kind t : Int) : ∀ n, cntN (fun k => atB ls kind t ((loanP ls kind n).getD k 0).toNat) (loanP ls kind n).length = cntN (atB ls kind t) n
  | 0 => rfl
  | n + 1 => by
    have ih := cnt_loanP ls kind t n
    rw [loanP_succ]
    by_cases h : decide ((ls.getD n ln0).kind = kind) = true
    · rw [if_pos h, List.length_append, List.length_cons, List.length_nil, Nat.zero_add]
      have e0 : ((loanP ls kind n ++ [(n : Int)]).getD (loanP ls kind n).length 0).toNat = n := by rw [getD_last, Int.toNat_natCast]
      simp only [cntN, e0]
      have e := cntN_congr (p := fun k => atB ls kind t ((loanP ls kind n ++ [(n : Int)]).getD k 0).toNat) (q := fun k => atB ls kind t ((loanP ls kind n).getD k 0).toNat) (n := (loanP ls kind n).length) (fun k hk => by rw [getD_left hk])
      rw [e, ih]
    · rw [if_neg h, ih]
      have : atB ls kind t n = false := by unfold atB; rw [show decide ((ls.getD n ln0).kind = kind) = false by simpa using h]; rfl
      simp only [cntN]
      rw [this]; rfl
theorem atB_ov {ls : List Ln} {kind t : Int} {a b : Nat} (ha : atB ls kind t a = true) (hb : atB ls kind t b = true) : ovB (ls.getD a ln0) (ls.getD b ln0) = true := by
  unfold atB at ha hb
  rw [Bool.and_eq_true, decide_eq_true_eq, wi_iff] at ha hb
  unfold ovB
  rw [Bool.and_eq_true, Bool.and_eq_true, decide_eq_true_eq, decide_eq_true_eq, decide_eq_true_eq]
  omega
theorem ex_iff {ls : List Ln} {life kind : Int} {n : Nat} : exB ls life kind n = true ↔ ∃ J : List Int, J.length = (loanP ls kind ls.length).length ∧ RtF (fun _ => n) (okK ls life (loanP ls kind ls.length)) 0 J := by
  unfold exB
  rw [srch_isSome]
  constructor
  · rintro ⟨J, h1, h2, h3⟩; exact ⟨J, by simpa using h1, h3⟩
  · rintro ⟨J, h1, h2⟩; exact ⟨J, by simpa using h1, by simp, h2⟩
theorem ex_peak {ls : List Ln} {life kind : Int} {n : Nat} (h : exB ls life kind n = true) : pkP ls kind ls.length ≤ n := by
  obtain ⟨J, h1, h2⟩ := ex_iff.1 h
  have hc : ∀ t, pkC ls kind t ls.length ≤ n := fun t => by
    have := right_peak h2 (p := fun k => atB ls kind t ((loanP ls kind ls.length).getD k 0).toNat) (fun i k _ hi hk => atB_ov hi hk)
    rw [h1, cnt_loanP] at this
    unfold pkC; omega
  have : ∀ i, pkP ls kind i ≤ n := by
    intro i
    induction i with
    | zero => simp [pkP]
    | succ i ih =>
      have := hc (ls.getD i ln0).fr
      simp only [pkP]; split <;> omega
  exact this _
theorem ex_uses {ls : List Ln} {life kind : Int} (h0 : 0 ≤ life) {n : Nat} (h : exB ls life kind n = true) : sumN (uL ls (loanP ls kind ls.length)) (loanP ls kind ls.length).length ≤ (n : Int) * life := by
  obtain ⟨J, h1, h2⟩ := ex_iff.1 h
  have := right_sum h0 h2
  rw [h1] at this; exact this
theorem psV_ex {ks : List St} {ls : List Ln} (hv : SV ks ls) {kind items : Int} (hk : 0 ≤ kind ∧ kind < ks.length) (hi : 0 ≤ items) : psV ks ls kind items = exB ls (ks.getD kind.toNat st0).life kind items.toNat := by
  have hst := hv.st kind.toNat (by omega)
  unfold psV
  cases h : exB ls (ks.getD kind.toNat st0).life kind items.toNat with
  | false => simp
  | true =>
    have h1 := ex_peak h
    have h2 := ex_uses (by omega) h
    rw [Int.toNat_of_nonneg hi] at h1 h2
    rw [decide_eq_true h1, decide_eq_true h2]; rfl
theorem ex_mono {ls : List Ln} {life kind : Int} {n n' : Nat} (hn : n ≤ n') (h : exB ls life kind n = true) : exB ls life kind n' = true := by
  obtain ⟨J, h1, h2⟩ := ex_iff.1 h
  exact ex_iff.2 ⟨J, h1, rt_mono h2 (fun _ _ => hn)⟩
def tooB (ls : List Ln) (life kind : Int) : Bool := ls.any fun x => decide (x.kind = kind) && decide (life < x.uses)
theorem loanP_has {ls : List Ln} {kind : Int} {i : Nat} (hi : i < ls.length) (hk : (ls.getD i ln0).kind = kind) : ∃ k, k < (loanP ls kind ls.length).length ∧ (loanP ls kind ls.length).getD k 0 = (i : Int) := by
  have : (i : Int) ∈ loanP ls kind ls.length := by
    unfold loanP
    rw [List.mem_map]
    exact ⟨i, by rw [List.mem_filter, List.mem_range]; exact ⟨hi, decide_eq_true hk⟩, rfl⟩
  obtain ⟨k, h1, h2⟩ := List.mem_iff_getElem.1 this
  exact ⟨k, h1, by simp [h1, h2]⟩
theorem too_none {ks : List St} {ls : List Ln} (hv : SV ks ls) {life kind : Int} (h : tooB ls life kind = true) (n : Nat) : exB ls life kind n = false := by
  rw [← Bool.not_eq_true]
  intro hex
  obtain ⟨J, h1, h2⟩ := ex_iff.1 hex
  unfold tooB at h
  obtain ⟨x, hx, hp⟩ := List.any_eq_true.1 h
  obtain ⟨i, hi, rfl⟩ := List.getElem_of_mem hx
  rw [Bool.and_eq_true, decide_eq_true_eq, decide_eq_true_eq] at hp
  have hg : ls.getD i ln0 = ls[i] := by simp [hi]
  obtain ⟨k, h3, h4⟩ := loanP_has (kind := kind) hi (by rw [hg]; exact hp.1)
  refine not_enough (fun i => (uL_bd hv _ i).1) (k := k) (by omega) ?_ h2
  unfold uL
  rw [h4, Int.toNat_natCast, hg]; exact hp.2
theorem ex_many {ls : List Ln} {life kind : Int} (h : tooB ls life kind = false) : exB ls life kind (loanP ls kind ls.length).length = true := by
  refine ex_iff.2 ⟨(List.range (loanP ls kind ls.length).length).map fun i : Nat => (i : Int), ?_, many_enough (m := (loanP ls kind ls.length).length) fun k hk => ?_⟩
  · simp
  · obtain ⟨i, h1, h2, h3⟩ := loanP_mem (ls := ls) (kind := kind) (k := ls.length) ((loanP ls kind ls.length).getD k 0) (by simp [hk])
    unfold uL
    rw [h1, Int.toNat_natCast]
    unfold tooB at h
    rw [List.any_eq_false] at h
    have hmem : ls.getD i ln0 ∈ ls := by
      have e : ls.getD i ln0 = ls[i] := by simp [h2]
      rw [e]; exact List.getElem_mem h2
    have := h (ls.getD i ln0) hmem
    simp only [Bool.and_eq_true, decide_eq_true_eq, not_and, Int.not_lt] at this
    exact this h3
def ndS (ex : Nat → Bool) : Nat → Nat → Int
  | 0, _ => -1
  | d + 1, j => if ex j = true then (j : Int) else ndS ex d (j + 1)
theorem ndS_at {ex : Nat → Bool} {j : Nat} (h : ex j = true) (hb : ∀ i, i < j → ex i = false) : ∀ {d i : Nat}, i ≤ j → j < i + d → ndS ex d i = (j : Int)
  | 0, i, h1, h2 => by omega
  | d + 1, i, h1, h2 => by
    simp only [ndS]
    by_cases hij : i = j
    · subst hij; rw [if_pos h]
    · rw [if_neg (by rw [hb i (by omega)]; simp)]
      exact ndS_at h hb (by omega) (by omega)
theorem ndS_none {ex : Nat → Bool} (h : ∀ i, ex i = false) : ∀ {d i : Nat}, ndS ex d i = -1
  | 0, _ => rfl
  | d + 1, i => by simp only [ndS]; rw [if_neg (by rw [h i]; simp)]; exact ndS_none h
def ndV (ks : List St) (ls : List Ln) (kind : Int) : Int := ndS (exB ls (ks.getD kind.toNat st0).life kind) (ls.length + 1) 0
theorem need1_pure {ks : List St} {ls : List Ln} (x : Ln) (kind : Int) (hk : 0 ≤ kind ∧ kind < ks.length) (hk8 : ks.length ≤ 8) : Pure Try.prog 82 [lnA x, .ref [.int kind] 0, .ref [.lst 2 (ks.map stA), .lst 5 (ls.map lnA)] 0] (.bool (decide (x.kind = kind) && decide ((ks.getD kind.toNat st0).life < x.uses))) := by
  generalize hy : ks.getD kind.toNat st0 = y
  (refine Spec.of_body Try.func82 rfl (by rw [Try.ntmps82]; simp) 0 (by simp) ?_; rw [Try.results82, Try.ntmps82]; simp only [entry, zipArgs, Nat.reduceAdd])
  repeat (first | apply Wp.seq | apply Wp.block | (apply Run.next; (simp only [push_cast, seval, hy] <;> (try simp (disch := omega) only [wI, wU, wC]) <;> exact rfl); (focus ((try simp only [push_cast, seval, hy]) <;> exact sT))) | ((first | apply Run.nil | apply Wp.skip); dsimp only [sQ, tQ, bQ]) | (apply Wp.run; (dsimp only [List.map] <;> exact rfl); exact rfl) | (apply Wp.exit; dsimp only [sQ, tQ, bQ]; simp only [reduceIte]))
  (apply Wp.runD 16 mixed; (dsimp only [List.map] <;> exact rfl); exact rfl; kernel_rfl; (dsimp only [List.take] <;> exact rfl); (dsimp only [List.drop] <;> exact rfl); (((repeat (apply Abn.next; (simp only [push_cast, seval, hy] <;> (try simp (disch := omega) only [wI, wU, wC]) <;> exact rfl); (focus ((try simp only [push_cast, seval, hy]) <;> exact sT))))); exact Abn.nil))
  repeat (first | apply Wp.seq | apply Wp.block | (apply Run.next; (simp only [push_cast, seval, hy] <;> (try simp (disch := omega) only [wI, wU, wC]) <;> exact rfl); (focus ((try simp only [push_cast, seval, hy]) <;> exact sT))) | ((first | apply Run.nil | apply Wp.skip); dsimp only [sQ, tQ, bQ]) | (apply Wp.run; (dsimp only [List.map] <;> exact rfl); exact rfl) | (apply Wp.exit; dsimp only [sQ, tQ, bQ]; simp only [reduceIte]))
  (apply Wp.ret; (try dsimp only [sQ, tQ, bQ]); apply leave0; exact rfl; (simp only [push_cast, seval, hy] <;> (try simp (disch := omega) only [wI, wU, wC]) <;> exact rfl); all_goals (try simp only [push_cast, seval, hy]); (try rfl))
theorem need_pure {ks : List St} {ls : List Ln} (hv : SV ks ls) (kind : Int) (hk : 0 ≤ kind ∧ kind < ks.length) : Pure Try.prog 53 [storA ks ls, .int kind] (.tup [.int (if ndV ks ls kind < 0 then 0 else ndV ks ls kind), .bool (decide (0 ≤ ndV ks ls kind))]) := by
  have hl20 := hv.l20
  have hk8 := hv.k8
  have hcf := containsFuncLn ls 82 [.ref [.int kind] 0, .ref [.lst 2 (ks.map stA), .lst 5 (ls.map lnA)] 0] (fun x => decide (x.kind = kind) && decide ((ks.getD kind.toNat st0).life < x.uses)) (Enters.of Try.func82 rfl rfl) (by simp only [push_cast]) (fun m => ⟨rfl, rfl⟩) (fun x _ => need1_pure x kind hk hk8) (by omega)
  rw [show (ls.any fun x => decide (x.kind = kind) && decide ((ks.getD kind.toNat st0).life < x.uses)) = tooB ls (ks.getD kind.toNat st0).life kind from rfl] at hcf
  cases ht : tooB ls (ks.getD kind.toNat st0).life kind with
  | true =>
    have hn : ndV ks ls kind = -1 := ndS_none (too_none hv ht)
    rw [ht] at hcf
    rw [hn]
    (refine Spec.of_body Try.func53 rfl (by rw [Try.ntmps53]; simp) 0 (by simp) ?_; rw [Try.results53, Try.ntmps53]; simp only [entry, zipArgs, Nat.reduceAdd])
    repeat (first | apply Wp.seq | apply Wp.block)
    (apply Wp.run; (dsimp only [List.map] <;> exact rfl); exact rfl)
    iterate 4 (apply Run.next; (simp only [push_cast, seval] <;> (try simp (disch := omega) only [wI, wU, wC]) <;> exact rfl); (focus ((try simp only [push_cast, seval]) <;> exact sT)))
    (apply Run.nil; dsimp only [sQ, tQ, bQ])
    (apply Wp.freezeP 2; (simp only [push_cast, seval] <;> (try simp (disch := omega) only [wI, wU, wC]) <;> exact rfl); (simp only [push_cast, seval] <;> (try simp (disch := omega) only [wI, wU, wC]) <;> exact rfl); exact rfl; (focus (first | (simp [AV.cells]; done) | (simp only [push_cast, seval]; done))); simp only [AV.cells, List.set_cons_succ, List.set_cons_zero])
    (apply Wp.freezeP 3; (simp only [push_cast, seval] <;> (try simp (disch := omega) only [wI, wU, wC]) <;> exact rfl); (simp only [push_cast, seval] <;> (try simp (disch := omega) only [wI, wU, wC]) <;> exact rfl); exact rfl; (focus (first | (simp [AV.cells]; done) | (simp only [push_cast, seval]; done))); simp only [AV.cells, List.set_cons_succ, List.set_cons_zero])
    repeat (first | apply Wp.seq | apply Wp.block | (apply Run.next; (simp only [push_cast, seval] <;> (try simp (disch := omega) only [wI, wU, wC]) <;> exact rfl); (focus ((try simp only [push_cast, seval]) <;> exact sT))) | ((first | apply Run.nil | apply Wp.skip); dsimp only [sQ, tQ, bQ]) | (apply Wp.run; (dsimp only [List.map] <;> exact rfl); exact rfl) | (apply Wp.exit; dsimp only [sQ, tQ, bQ]; simp only [reduceIte]))
    (apply Run.pureP; (simp only [push_cast, seval] <;> (try simp (disch := omega) only [wI, wU, wC]) <;> exact rfl); (exact (Enters.of Try.func81 rfl rfl)); (exact hcf); (focus (simp only [push_cast, seval] <;> first | trivial | assumption | (refine ⟨?_, ?_⟩ <;> assumption) | (simp; done))); (try dsimp only [putA, optG]))
    repeat (first | apply Wp.seq | apply Wp.block | (apply Run.next; (simp only [push_cast, seval] <;> (try simp (disch := omega) only [wI, wU, wC]) <;> exact rfl); (focus ((try simp only [push_cast, seval]) <;> exact sT))) | ((first | apply Run.nil | apply Wp.skip); dsimp only [sQ, tQ, bQ]) | (apply Wp.run; (dsimp only [List.map] <;> exact rfl); exact rfl) | (apply Wp.exit; dsimp only [sQ, tQ, bQ]; simp only [reduceIte]) | (apply Run.gtrue; (simp only [push_cast, seval] <;> (try simp (disch := omega) only [wI, wU, wC]) <;> exact rfl); (simp only [push_cast, seval] <;> (try simp (disch := omega) only [wI, wU, wC]) <;> exact rfl)) | (apply Run.gfalse (.bool false); (simp only [push_cast, seval] <;> (try simp (disch := omega) only [wI, wU, wC]) <;> exact rfl); dsimp only [S.put, optG]) | (apply Wp.condT; (simp only [push_cast, seval] <;> (try simp (disch := omega) only [wI, wU, wC]) <;> exact rfl)) | (apply Wp.condF; (simp only [push_cast, seval] <;> (try simp (disch := omega) only [wI, wU, wC]) <;> exact rfl)))
    (apply Wp.ret; (try dsimp only [sQ, tQ, bQ]); apply leave0; exact rfl; (simp only [push_cast, seval] <;> (try simp (disch := omega) only [wI, wU, wC]) <;> exact rfl); all_goals (try simp only [push_cast, seval]); (try rfl))
  | false =>
    have hm := ex_many ht
    have hLl := loanP_len ls kind ls.length
    rw [ht] at hcf
    have hps := fun (n : Nat) (h : n ≤ 100) => possible_pure hv kind (n : Int) hk (by omega)
    have hpx := fun (n : Nat) => psV_ex hv hk (items := (n : Int)) (by omega)
    have hat := fun (n : Nat) (h1 : exB ls (ks.getD kind.toNat st0).life kind n = true) (h2 : ∀ i, i < n → exB ls (ks.getD kind.toNat st0).life kind i = false) (h3 : n ≤ ls.length) => (show ndV ks ls kind = (n : Int) from ndS_at h1 h2 (Nat.zero_le _) (by omega))
    simp only [Int.toNat_natCast] at hpx
    generalize exB ls (ks.getD kind.toNat st0).life kind = ex at hm hpx hat
    (refine Spec.of_body Try.func53 rfl (by rw [Try.ntmps53]; simp) 0 (by simp) ?_; rw [Try.results53, Try.ntmps53]; simp only [entry, zipArgs, Nat.reduceAdd])
    repeat (first | apply Wp.seq | apply Wp.block)
    (apply Wp.run; (dsimp only [List.map] <;> exact rfl); exact rfl)
    iterate 4 (apply Run.next; (simp only [push_cast, seval] <;> (try simp (disch := omega) only [wI, wU, wC]) <;> exact rfl); (focus ((try simp only [push_cast, seval]) <;> exact sT)))
    (apply Run.nil; dsimp only [sQ, tQ, bQ])
    (apply Wp.freezeP 2; (simp only [push_cast, seval] <;> (try simp (disch := omega) only [wI, wU, wC]) <;> exact rfl); (simp only [push_cast, seval] <;> (try simp (disch := omega) only [wI, wU, wC]) <;> exact rfl); exact rfl; (focus (first | (simp [AV.cells]; done) | (simp only [push_cast, seval]; done))); simp only [AV.cells, List.set_cons_succ, List.set_cons_zero])
    (apply Wp.freezeP 3; (simp only [push_cast, seval] <;> (try simp (disch := omega) only [wI, wU, wC]) <;> exact rfl); (simp only [push_cast, seval] <;> (try simp (disch := omega) only [wI, wU, wC]) <;> exact rfl); exact rfl; (focus (first | (simp [AV.cells]; done) | (simp only [push_cast, seval]; done))); simp only [AV.cells, List.set_cons_succ, List.set_cons_zero])
    repeat (first | apply Wp.seq | apply Wp.block | (apply Run.next; (simp only [push_cast, seval] <;> (try simp (disch := omega) only [wI, wU, wC]) <;> exact rfl); (focus ((try simp only [push_cast, seval]) <;> exact sT))) | ((first | apply Run.nil | apply Wp.skip); dsimp only [sQ, tQ, bQ]) | (apply Wp.run; (dsimp only [List.map] <;> exact rfl); exact rfl) | (apply Wp.exit; dsimp only [sQ, tQ, bQ]; simp only [reduceIte]))
    (apply Run.pureP; (simp only [push_cast, seval] <;> (try simp (disch := omega) only [wI, wU, wC]) <;> exact rfl); (exact (Enters.of Try.func81 rfl rfl)); (exact hcf); (focus (simp only [push_cast, seval] <;> first | trivial | assumption | (refine ⟨?_, ?_⟩ <;> assumption) | (simp; done))); (try dsimp only [putA, optG]))
    repeat (first | apply Wp.seq | apply Wp.block | (apply Run.next; (simp only [push_cast, seval] <;> (try simp (disch := omega) only [wI, wU, wC]) <;> exact rfl); (focus ((try simp only [push_cast, seval]) <;> exact sT))) | ((first | apply Run.nil | apply Wp.skip); dsimp only [sQ, tQ, bQ]) | (apply Wp.run; (dsimp only [List.map] <;> exact rfl); exact rfl) | (apply Wp.exit; dsimp only [sQ, tQ, bQ]; simp only [reduceIte]) | (apply Run.gtrue; (simp only [push_cast, seval] <;> (try simp (disch := omega) only [wI, wU, wC]) <;> exact rfl); (simp only [push_cast, seval] <;> (try simp (disch := omega) only [wI, wU, wC]) <;> exact rfl)) | (apply Run.gfalse (.bool false); (simp only [push_cast, seval] <;> (try simp (disch := omega) only [wI, wU, wC]) <;> exact rfl); dsimp only [S.put, optG]) | (apply Wp.condT; (simp only [push_cast, seval] <;> (try simp (disch := omega) only [wI, wU, wC]) <;> exact rfl)) | (apply Wp.condF; (simp only [push_cast, seval] <;> (try simp (disch := omega) only [wI, wU, wC]) <;> exact rfl)))
    refine Wp.loop (fun (n : Nat) => { t := [(2, .ref [.lst 2 (ks.map stA), .lst 5 (ls.map lnA)] 0), (3, .ref [.int kind] 0), (6, .int n)], m := [⟨1, .row 2 []⟩, ⟨1, .row 1 []⟩], n := 19 }) (fun n => n ≤ ls.length ∧ ∀ i, i < n → ex i = false) (fun n => ls.length - n) 0 ?_ ?_ ?_
    · (refine Le.of ?_ ?_ rfl rfl <;> (try simp only [push_cast, seval]) <;> (try (with_reducible rfl)))
      all_goals rfl
    · simp
    · rintro n ⟨hn1, hn2⟩
      have hpn := hps n (by omega)
      rw [hpx] at hpn
      cases hx : ex n with
      | true =>
        rw [hx] at hpn
        repeat (first | apply Wp.seq | apply Wp.block | (apply Run.next; (simp only [push_cast, seval] <;> (try simp (disch := omega) only [wI, wU, wC]) <;> exact rfl); (focus ((try simp only [push_cast, seval]) <;> exact sT))) | ((first | apply Run.nil | apply Wp.skip); dsimp only [sQ, tQ, bQ]) | (apply Wp.run; (dsimp only [List.map] <;> exact rfl); exact rfl) | (apply Wp.exit; dsimp only [sQ, tQ, bQ]; simp only [reduceIte]))
        (apply Run.pureP; (simp only [push_cast, seval] <;> (try simp (disch := omega) only [wI, wU, wC]) <;> exact rfl); (exact (Enters.of Try.func57 rfl rfl)); (exact hpn); (focus (simp only [push_cast, seval] <;> first | trivial | assumption | (refine ⟨?_, ?_⟩ <;> assumption) | (simp; done))); (try dsimp only [putA, optG]))
        repeat (first | apply Wp.seq | apply Wp.block | (apply Run.next; (simp only [push_cast, seval] <;> (try simp (disch := omega) only [wI, wU, wC]) <;> exact rfl); (focus ((try simp only [push_cast, seval]) <;> exact sT))) | ((first | apply Run.nil | apply Wp.skip); dsimp only [sQ, tQ, bQ]) | (apply Wp.run; (dsimp only [List.map] <;> exact rfl); exact rfl) | (apply Wp.exit; dsimp only [sQ, tQ, bQ]; simp only [reduceIte]) | (apply Run.gtrue; (simp only [push_cast, seval] <;> (try simp (disch := omega) only [wI, wU, wC]) <;> exact rfl); (simp only [push_cast, seval] <;> (try simp (disch := omega) only [wI, wU, wC]) <;> exact rfl)) | (apply Run.gfalse (.bool false); (simp only [push_cast, seval] <;> (try simp (disch := omega) only [wI, wU, wC]) <;> exact rfl); dsimp only [S.put, optG]) | (apply Wp.condT; (simp only [push_cast, seval] <;> (try simp (disch := omega) only [wI, wU, wC]) <;> exact rfl)) | (apply Wp.condF; (simp only [push_cast, seval] <;> (try simp (disch := omega) only [wI, wU, wC]) <;> exact rfl)))
        (apply Wp.ret; (try dsimp only [sQ, tQ, bQ]); apply leave0; exact rfl; (simp only [push_cast, seval] <;> (try simp (disch := omega) only [wI, wU, wC]) <;> exact rfl); all_goals (try simp only [push_cast, seval]); (try rfl))
        rw [hat n hx hn2 hn1, show max (n : Int) 0 = n by omega, decide_eq_true (show (0 : Int) ≤ n by omega)]
      | false =>
        rw [hx] at hpn
        have hlt : n < (loanP ls kind ls.length).length := by
          apply Classical.byContradiction
          intro hge
          by_cases hnm : n = (loanP ls kind ls.length).length
          · rw [hnm, hm] at hx; cases hx
          · have := hn2 (loanP ls kind ls.length).length (by omega); rw [hm] at this; cases this
        repeat (first | apply Wp.seq | apply Wp.block | (apply Run.next; (simp only [push_cast, seval] <;> (try simp (disch := omega) only [wI, wU, wC]) <;> exact rfl); (focus ((try simp only [push_cast, seval]) <;> exact sT))) | ((first | apply Run.nil | apply Wp.skip); dsimp only [sQ, tQ, bQ]) | (apply Wp.run; (dsimp only [List.map] <;> exact rfl); exact rfl) | (apply Wp.exit; dsimp only [sQ, tQ, bQ]; simp only [reduceIte]))
        (apply Run.pureP; (simp only [push_cast, seval] <;> (try simp (disch := omega) only [wI, wU, wC]) <;> exact rfl); (exact (Enters.of Try.func57 rfl rfl)); (exact hpn); (focus (simp only [push_cast, seval] <;> first | trivial | assumption | (refine ⟨?_, ?_⟩ <;> assumption) | (simp; done))); (try dsimp only [putA, optG]))
        repeat (first | apply Wp.seq | apply Wp.block | (apply Run.next; (simp only [push_cast, seval] <;> (try simp (disch := omega) only [wI, wU, wC]) <;> exact rfl); (focus ((try simp only [push_cast, seval]) <;> exact sT))) | ((first | apply Run.nil | apply Wp.skip); dsimp only [sQ, tQ, bQ]) | (apply Wp.run; (dsimp only [List.map] <;> exact rfl); exact rfl) | (apply Wp.exit; dsimp only [sQ, tQ, bQ]; simp only [reduceIte]) | (apply Run.gtrue; (simp only [push_cast, seval] <;> (try simp (disch := omega) only [wI, wU, wC]) <;> exact rfl); (simp only [push_cast, seval] <;> (try simp (disch := omega) only [wI, wU, wC]) <;> exact rfl)) | (apply Run.gfalse (.bool false); (simp only [push_cast, seval] <;> (try simp (disch := omega) only [wI, wU, wC]) <;> exact rfl); dsimp only [S.put, optG]) | (apply Wp.condT; (simp only [push_cast, seval] <;> (try simp (disch := omega) only [wI, wU, wC]) <;> exact rfl)) | (apply Wp.condF; (simp only [push_cast, seval] <;> (try simp (disch := omega) only [wI, wU, wC]) <;> exact rfl)))
        refine ⟨n + 1, ?_, ⟨by omega, fun i hi => ?_⟩, by omega⟩
        · (refine Le.of ?_ ?_ rfl rfl <;> (try simp only [push_cast, seval]) <;> (try (with_reducible rfl)))
        · by_cases hin : i = n
          · rw [hin]; exact hx
          · exact hn2 i (by omega)
theorem ndS_ge (ex : Nat → Bool) : ∀ d i, -1 ≤ ndS ex d i ∧ ndS ex d i < (i : Int) + d ∧ (ndS ex d i = -1 ∨ (i : Int) ≤ ndS ex d i)
  | 0, i => by simp [ndS]; omega
  | d + 1, i => by
    have := ndS_ge ex d (i + 1)
    simp only [ndS]; split <;> omega
theorem ndV_bd (ks : List St) (ls : List Ln) (kind : Int) : -1 ≤ ndV ks ls kind ∧ ndV ks ls kind ≤ ls.length := by
  have := ndS_ge (exB ls (ks.getD kind.toNat st0).life kind) (ls.length + 1) 0
  unfold ndV; omega
def nV (ks : List St) (ls : List Ln) (kind : Int) : Int := if ckK ks ls kind = 0 ∧ 0 ≤ ndV ks ls kind then ndV ks ls kind else 0
def nE (ks : List St) (ls : List Ln) (kind : Int) : Int := if ckK ks ls kind = 0 then (if 0 ≤ ndV ks ls kind then 0 else 3) else ckK ks ls kind
theorem Need_pure (ks : List St) (ls : List Ln) (kind : Int) (hk : ks.length ≤ 9223372036854775807) (hl : ls.length ≤ 9223372036854775807) : Pure Try.prog 19 [storA ks ls, .int kind] (.tup [.int (nV ks ls kind), .int (nE ks ls kind)]) := by
  have hck := checkKind_pure ks ls kind hk hl
  unfold nV nE
  by_cases h1 : ckK ks ls kind = 0
  · obtain ⟨h2, h3⟩ := ckK_ok h1
    have hnd := need_pure (chkE_ok h2) kind h3
    rw [h1] at hck ⊢
    by_cases h4 : 0 ≤ ndV ks ls kind
    · rw [if_pos ⟨rfl, h4⟩, if_pos rfl, if_pos h4]
      rw [if_neg (by omega), decide_eq_true h4] at hnd
      (refine Spec.of_body Try.func19 rfl (by rw [Try.ntmps19]; simp) 0 (by simp) ?_; rw [Try.results19, Try.ntmps19]; simp only [entry, zipArgs, Nat.reduceAdd])
      repeat (first | apply Wp.seq | apply Wp.block | (apply Run.next; (simp only [push_cast, seval] <;> (try simp (disch := omega) only [wI, wU, wC]) <;> exact rfl); (focus ((try simp only [push_cast, seval]) <;> exact sT))) | ((first | apply Run.nil | apply Wp.skip); dsimp only [sQ, tQ, bQ]) | (apply Wp.run; (dsimp only [List.map] <;> exact rfl); exact rfl) | (apply Wp.exit; dsimp only [sQ, tQ, bQ]; simp only [reduceIte]))
      (apply Run.pureP; (simp only [push_cast, seval] <;> (try simp (disch := omega) only [wI, wU, wC]) <;> exact rfl); (exact (Enters.of Try.func49 rfl rfl)); (exact hck); (focus (simp only [push_cast, seval] <;> first | trivial | assumption | (refine ⟨?_, ?_⟩ <;> assumption) | (simp; done))); (try dsimp only [putA, optG]))
      repeat (first | apply Wp.seq | apply Wp.block | (apply Run.next; (simp only [push_cast, seval] <;> (try simp (disch := omega) only [wI, wU, wC]) <;> exact rfl); (focus ((try simp only [push_cast, seval]) <;> exact sT))) | ((first | apply Run.nil | apply Wp.skip); dsimp only [sQ, tQ, bQ]) | (apply Wp.run; (dsimp only [List.map] <;> exact rfl); exact rfl) | (apply Wp.exit; dsimp only [sQ, tQ, bQ]; simp only [reduceIte]) | (apply Run.gtrue; (simp only [push_cast, seval] <;> (try simp (disch := omega) only [wI, wU, wC]) <;> exact rfl); (simp only [push_cast, seval] <;> (try simp (disch := omega) only [wI, wU, wC]) <;> exact rfl)) | (apply Run.gfalse (.bool false); (simp only [push_cast, seval] <;> (try simp (disch := omega) only [wI, wU, wC]) <;> exact rfl); dsimp only [S.put, optG]) | (apply Wp.condT; (simp only [push_cast, seval] <;> (try simp (disch := omega) only [wI, wU, wC]) <;> exact rfl)) | (apply Wp.condF; (simp only [push_cast, seval] <;> (try simp (disch := omega) only [wI, wU, wC]) <;> exact rfl)))
      (apply Run.pureP; (simp only [push_cast, seval] <;> (try simp (disch := omega) only [wI, wU, wC]) <;> exact rfl); (exact (Enters.of Try.func53 rfl rfl)); (exact hnd); (focus (simp only [push_cast, seval] <;> first | trivial | assumption | (refine ⟨?_, ?_⟩ <;> assumption) | (simp; done))); (try dsimp only [putA, optG]))
      repeat (first | apply Wp.seq | apply Wp.block | (apply Run.next; (simp only [push_cast, seval] <;> (try simp (disch := omega) only [wI, wU, wC]) <;> exact rfl); (focus ((try simp only [push_cast, seval]) <;> exact sT))) | ((first | apply Run.nil | apply Wp.skip); dsimp only [sQ, tQ, bQ]) | (apply Wp.run; (dsimp only [List.map] <;> exact rfl); exact rfl) | (apply Wp.exit; dsimp only [sQ, tQ, bQ]; simp only [reduceIte]) | (apply Run.gtrue; (simp only [push_cast, seval] <;> (try simp (disch := omega) only [wI, wU, wC]) <;> exact rfl); (simp only [push_cast, seval] <;> (try simp (disch := omega) only [wI, wU, wC]) <;> exact rfl)) | (apply Run.gfalse (.bool false); (simp only [push_cast, seval] <;> (try simp (disch := omega) only [wI, wU, wC]) <;> exact rfl); dsimp only [S.put, optG]) | (apply Wp.condT; (simp only [push_cast, seval] <;> (try simp (disch := omega) only [wI, wU, wC]) <;> exact rfl)) | (apply Wp.condF; (simp only [push_cast, seval] <;> (try simp (disch := omega) only [wI, wU, wC]) <;> exact rfl)))
      (apply Wp.ret; (try dsimp only [sQ, tQ, bQ]); apply leave0; exact rfl; (simp only [push_cast, seval] <;> (try simp (disch := omega) only [wI, wU, wC]) <;> exact rfl); all_goals (try simp only [push_cast, seval]); (try rfl))
    · rw [if_neg (fun h => h4 h.2), if_pos rfl, if_neg h4]
      rw [if_pos (by omega), decide_eq_false h4] at hnd
      (refine Spec.of_body Try.func19 rfl (by rw [Try.ntmps19]; simp) 0 (by simp) ?_; rw [Try.results19, Try.ntmps19]; simp only [entry, zipArgs, Nat.reduceAdd])
      repeat (first | apply Wp.seq | apply Wp.block | (apply Run.next; (simp only [push_cast, seval] <;> (try simp (disch := omega) only [wI, wU, wC]) <;> exact rfl); (focus ((try simp only [push_cast, seval]) <;> exact sT))) | ((first | apply Run.nil | apply Wp.skip); dsimp only [sQ, tQ, bQ]) | (apply Wp.run; (dsimp only [List.map] <;> exact rfl); exact rfl) | (apply Wp.exit; dsimp only [sQ, tQ, bQ]; simp only [reduceIte]))
      (apply Run.pureP; (simp only [push_cast, seval] <;> (try simp (disch := omega) only [wI, wU, wC]) <;> exact rfl); (exact (Enters.of Try.func49 rfl rfl)); (exact hck); (focus (simp only [push_cast, seval] <;> first | trivial | assumption | (refine ⟨?_, ?_⟩ <;> assumption) | (simp; done))); (try dsimp only [putA, optG]))
      repeat (first | apply Wp.seq | apply Wp.block | (apply Run.next; (simp only [push_cast, seval] <;> (try simp (disch := omega) only [wI, wU, wC]) <;> exact rfl); (focus ((try simp only [push_cast, seval]) <;> exact sT))) | ((first | apply Run.nil | apply Wp.skip); dsimp only [sQ, tQ, bQ]) | (apply Wp.run; (dsimp only [List.map] <;> exact rfl); exact rfl) | (apply Wp.exit; dsimp only [sQ, tQ, bQ]; simp only [reduceIte]) | (apply Run.gtrue; (simp only [push_cast, seval] <;> (try simp (disch := omega) only [wI, wU, wC]) <;> exact rfl); (simp only [push_cast, seval] <;> (try simp (disch := omega) only [wI, wU, wC]) <;> exact rfl)) | (apply Run.gfalse (.bool false); (simp only [push_cast, seval] <;> (try simp (disch := omega) only [wI, wU, wC]) <;> exact rfl); dsimp only [S.put, optG]) | (apply Wp.condT; (simp only [push_cast, seval] <;> (try simp (disch := omega) only [wI, wU, wC]) <;> exact rfl)) | (apply Wp.condF; (simp only [push_cast, seval] <;> (try simp (disch := omega) only [wI, wU, wC]) <;> exact rfl)))
      (apply Run.pureP; (simp only [push_cast, seval] <;> (try simp (disch := omega) only [wI, wU, wC]) <;> exact rfl); (exact (Enters.of Try.func53 rfl rfl)); (exact hnd); (focus (simp only [push_cast, seval] <;> first | trivial | assumption | (refine ⟨?_, ?_⟩ <;> assumption) | (simp; done))); (try dsimp only [putA, optG]))
      repeat (first | apply Wp.seq | apply Wp.block | (apply Run.next; (simp only [push_cast, seval] <;> (try simp (disch := omega) only [wI, wU, wC]) <;> exact rfl); (focus ((try simp only [push_cast, seval]) <;> exact sT))) | ((first | apply Run.nil | apply Wp.skip); dsimp only [sQ, tQ, bQ]) | (apply Wp.run; (dsimp only [List.map] <;> exact rfl); exact rfl) | (apply Wp.exit; dsimp only [sQ, tQ, bQ]; simp only [reduceIte]) | (apply Run.gtrue; (simp only [push_cast, seval] <;> (try simp (disch := omega) only [wI, wU, wC]) <;> exact rfl); (simp only [push_cast, seval] <;> (try simp (disch := omega) only [wI, wU, wC]) <;> exact rfl)) | (apply Run.gfalse (.bool false); (simp only [push_cast, seval] <;> (try simp (disch := omega) only [wI, wU, wC]) <;> exact rfl); dsimp only [S.put, optG]) | (apply Wp.condT; (simp only [push_cast, seval] <;> (try simp (disch := omega) only [wI, wU, wC]) <;> exact rfl)) | (apply Wp.condF; (simp only [push_cast, seval] <;> (try simp (disch := omega) only [wI, wU, wC]) <;> exact rfl)))
      (apply Wp.ret; (try dsimp only [sQ, tQ, bQ]); apply leave0; exact rfl; (simp only [push_cast, seval] <;> (try simp (disch := omega) only [wI, wU, wC]) <;> exact rfl); all_goals (try simp only [push_cast, seval]); (try rfl))
  · rw [if_neg (fun h => h1 h.1), if_neg h1]
    generalize ckK ks ls kind = e at hck h1
    have he : decide (e = 0) = false := decide_eq_false h1
    (refine Spec.of_body Try.func19 rfl (by rw [Try.ntmps19]; simp) 0 (by simp) ?_; rw [Try.results19, Try.ntmps19]; simp only [entry, zipArgs, Nat.reduceAdd])
    repeat (first | apply Wp.seq | apply Wp.block | (apply Run.next; (simp only [push_cast, seval, he] <;> (try simp (disch := omega) only [wI, wU, wC]) <;> exact rfl); (focus ((try simp only [push_cast, seval, he]) <;> exact sT))) | ((first | apply Run.nil | apply Wp.skip); dsimp only [sQ, tQ, bQ]) | (apply Wp.run; (dsimp only [List.map] <;> exact rfl); exact rfl) | (apply Wp.exit; dsimp only [sQ, tQ, bQ]; simp only [reduceIte]))
    (apply Run.pureP; (simp only [push_cast, seval, he] <;> (try simp (disch := omega) only [wI, wU, wC]) <;> exact rfl); (exact (Enters.of Try.func49 rfl rfl)); (exact hck); (focus (simp only [push_cast, seval, he] <;> first | trivial | assumption | (refine ⟨?_, ?_⟩ <;> assumption) | (simp; done))); (try dsimp only [putA, optG]))
    repeat (first | apply Wp.seq | apply Wp.block | (apply Run.next; (simp only [push_cast, seval, he] <;> (try simp (disch := omega) only [wI, wU, wC]) <;> exact rfl); (focus ((try simp only [push_cast, seval, he]) <;> exact sT))) | ((first | apply Run.nil | apply Wp.skip); dsimp only [sQ, tQ, bQ]) | (apply Wp.run; (dsimp only [List.map] <;> exact rfl); exact rfl) | (apply Wp.exit; dsimp only [sQ, tQ, bQ]; simp only [reduceIte]) | (apply Run.gtrue; (simp only [push_cast, seval, he] <;> (try simp (disch := omega) only [wI, wU, wC]) <;> exact rfl); (simp only [push_cast, seval, he] <;> (try simp (disch := omega) only [wI, wU, wC]) <;> exact rfl)) | (apply Run.gfalse (.bool false); (simp only [push_cast, seval, he] <;> (try simp (disch := omega) only [wI, wU, wC]) <;> exact rfl); dsimp only [S.put, optG]) | (apply Wp.condT; (simp only [push_cast, seval, he] <;> (try simp (disch := omega) only [wI, wU, wC]) <;> exact rfl)) | (apply Wp.condF; (simp only [push_cast, seval, he] <;> (try simp (disch := omega) only [wI, wU, wC]) <;> exact rfl)))
    (apply Wp.ret; (try dsimp only [sQ, tQ, bQ]); apply leave0; exact rfl; (simp only [push_cast, seval, he] <;> (try simp (disch := omega) only [wI, wU, wC]) <;> exact rfl); all_goals (try simp only [push_cast, seval, he]); (try rfl))
/-- what Buy says: nothing if there is a kind of which no number is enough -/
def buL (ks : List St) (ls : List Ln) (k : Nat) : List Int := (List.range k).map fun i : Nat => max 0 (ndV ks ls (i : Int) - (ks.getD i st0).items)
theorem buL_succ (ks : List St) (ls : List Ln) (k : Nat) : buL ks ls (k + 1) = buL ks ls k ++ [max 0 (ndV ks ls (k : Int) - (ks.getD k st0).items)] := by
  unfold buL; rw [List.range_succ, List.map_append]; rfl
theorem buL_len (ks : List St) (ls : List Ln) (k : Nat) : (buL ks ls k).length = k := by simp [buL]
def buOk (ks : List St) (ls : List Ln) : Bool := (List.range ks.length).all fun i => decide (0 ≤ ndV ks ls (i : Int))
def buA (ks : List St) (ls : List Ln) : AV := if chkE ks ls = 0 ∧ buOk ks ls = true then .ints (buL ks ls ks.length) else .emp
def buE (ks : List St) (ls : List Ln) : Int := if chkE ks ls = 0 then (if buOk ks ls = true then 0 else 3) else chkE ks ls
theorem Buy_pure (ks : List St) (ls : List Ln) (hk : ks.length ≤ 9223372036854775807) (hl : ls.length ≤ 9223372036854775807) : Pure Try.prog 21 [storA ks ls] (.tup [buA ks ls, .int (buE ks ls)]) := by
  have hck := check_pure ks ls hk hl
  unfold buA buE
  by_cases h1 : chkE ks ls = 0
  · have hv := chkE_ok h1
    have hk8 := hv.k8
    have hl20 := hv.l20
    rw [if_pos h1]
    rw [h1] at hck ⊢
    have hno : ∀ i, i < ks.length → ndV ks ls (i : Int) < 0 → buOk ks ls = false := fun i hi h => range_no hi (decide_eq_false (by omega))
    have hall : (∀ j, j < ks.length → 0 ≤ ndV ks ls (j : Int)) → buOk ks ls = true := fun h => range_all fun j hj => decide_eq_true (h j hj)
    generalize buOk ks ls = bo at hno hall
    (refine Spec.of_body Try.func21 rfl (by rw [Try.ntmps21]; simp) 0 (by simp) ?_; rw [Try.results21, Try.ntmps21]; simp only [entry, zipArgs, Nat.reduceAdd])
    repeat (first | apply Wp.seq | apply Wp.block | (apply Run.next; (simp only [push_cast, seval] <;> (try simp (disch := omega) only [wI, wU, wC]) <;> exact rfl); (focus ((try simp only [push_cast, seval]) <;> exact sT))) | ((first | apply Run.nil | apply Wp.skip); dsimp only [sQ, tQ, bQ]) | (apply Wp.run; (dsimp only [List.map] <;> exact rfl); exact rfl) | (apply Wp.exit; dsimp only [sQ, tQ, bQ]; simp only [reduceIte]))
    (apply Run.pureP; (simp only [push_cast, seval] <;> (try simp (disch := omega) only [wI, wU, wC]) <;> exact rfl); (exact (Enters.of Try.func28 rfl rfl)); (exact hck); (focus (simp only [push_cast, seval] <;> first | trivial | assumption | (refine ⟨?_, ?_⟩ <;> assumption) | (simp; done))); (try dsimp only [putA, optG]))
    repeat (first | apply Wp.seq | apply Wp.block | (apply Run.next; (simp only [push_cast, seval] <;> (try simp (disch := omega) only [wI, wU, wC]) <;> exact rfl); (focus ((try simp only [push_cast, seval]) <;> exact sT))) | ((first | apply Run.nil | apply Wp.skip); dsimp only [sQ, tQ, bQ]) | (apply Wp.run; (dsimp only [List.map] <;> exact rfl); exact rfl) | (apply Wp.exit; dsimp only [sQ, tQ, bQ]; simp only [reduceIte]) | (apply Run.gtrue; (simp only [push_cast, seval] <;> (try simp (disch := omega) only [wI, wU, wC]) <;> exact rfl); (simp only [push_cast, seval] <;> (try simp (disch := omega) only [wI, wU, wC]) <;> exact rfl)) | (apply Run.gfalse (.bool false); (simp only [push_cast, seval] <;> (try simp (disch := omega) only [wI, wU, wC]) <;> exact rfl); dsimp only [S.put, optG]) | (apply Wp.condT; (simp only [push_cast, seval] <;> (try simp (disch := omega) only [wI, wU, wC]) <;> exact rfl)) | (apply Wp.condF; (simp only [push_cast, seval] <;> (try simp (disch := omega) only [wI, wU, wC]) <;> exact rfl)))
    (refine Wp.vacs 1 ?_; (try simp only [List.replicate_succ, List.replicate_zero, List.cons_append, List.nil_append]))
    refine Wp.adopt 2 1 (by (simp only [push_cast, seval] <;> (try simp (disch := omega) only [wI, wU, wC]) <;> exact rfl)) ?_
    refine Wp.loop (fun (q : Nat × Nat × Kind) => { t := [(1, .optr 0 0 0 0), (2, .osl 2 (buL ks ls q.1).length 0 (buL ks ls q.1).length), (15, .lst 2 (ks.map stA)), (16, .int ks.length), (17, .int q.1)], m := [⟨0, .row 2 [storA ks ls]⟩, ⟨q.2.1, q.2.2⟩, ⟨(buL ks ls q.1).length, .row 1 ((buL ks ls q.1).map AV.int)⟩], n := 40 }) (fun q => q.1 ≤ ks.length ∧ ∀ j, j < q.1 → 0 ≤ ndV ks ls (j : Int)) (fun q => ks.length - q.1) (0, 0, .row 1 []) ?_ ?_ ?_
    · (refine Le.of ?_ ?_ rfl rfl <;> (try simp only [push_cast, seval]) <;> (try (with_reducible rfl)))
      all_goals rfl
    · simp
    · rintro ⟨k, v, kd⟩ ⟨hk1, hk2⟩
      simp only at hk1 hk2
      have hbs := buL_succ ks ls k
      have hbl := buL_len ks ls k
      have hnb := ndV_bd ks ls (k : Int)
      generalize hB : buL ks ls k = B at hbs hbl
      repeat (first | apply Wp.seq | apply Wp.block | (apply Run.calm; exact rfl; (simp only [push_cast, seval] <;> (try simp (disch := omega) only [wI, wU, wC]) <;> exact rfl); (focus ((try simp only [push_cast, seval]) <;> exact sT))) | ((first | apply Run.nil | apply Wp.skip); dsimp only [sQ, tQ, bQ]) | (apply Wp.run; (dsimp only [List.map] <;> exact rfl); exact rfl) | (apply Wp.exit; dsimp only [sQ, tQ, bQ]; simp only [reduceIte]))
      (apply Wp.cond; (simp only [push_cast, seval] <;> (try simp (disch := omega) only [wI, wU, wC]) <;> exact rfl))
      · intro hc
        simp only [decide_eq_true_eq, Int.ofNat_lt] at hc
        have hnd := need_pure hv (k : Int) (by omega)
        have hs := hv.st k hc
        have hnk := hno k hc
        have hk2' := hk2
        generalize hnn : ndV ks ls (k : Int) = nd at hbs hnb hnd hnk
        generalize hy : ks.getD k st0 = y at hbs hs
        repeat (first | apply Wp.seq | apply Wp.block | (apply Run.calm; exact rfl; (simp only [push_cast, seval, hy] <;> (try simp (disch := omega) only [wI, wU, wC]) <;> exact rfl); (focus ((try simp only [push_cast, seval, hy]) <;> exact sT))) | ((first | apply Run.nil | apply Wp.skip); dsimp only [sQ, tQ, bQ]) | (apply Wp.run; (dsimp only [List.map] <;> exact rfl); exact rfl) | (apply Wp.exit; dsimp only [sQ, tQ, bQ]; simp only [reduceIte]))
        (apply Run.alcAt 1; (simp only [push_cast, seval, hy] <;> (try simp (disch := omega) only [wI, wU, wC]) <;> exact rfl); (focus ((try simp only [push_cast, seval, hy]) <;> exact sT)); exact rfl; (try simp only [push_cast, seval, hy]))
        by_cases h4 : 0 ≤ nd
        · rw [if_neg (by omega), decide_eq_true h4] at hnd
          repeat (first | apply Wp.seq | apply Wp.block | (apply Run.next; (simp only [push_cast, seval, hy] <;> (try simp (disch := omega) only [wI, wU, wC]) <;> exact rfl); (focus ((try simp only [push_cast, seval, hy]) <;> exact sT))) | ((first | apply Run.nil | apply Wp.skip); dsimp only [sQ, tQ, bQ]) | (apply Wp.run; (dsimp only [List.map] <;> exact rfl); exact rfl) | (apply Wp.exit; dsimp only [sQ, tQ, bQ]; simp only [reduceIte]))
          (apply Run.pureP; (simp only [push_cast, seval, hy] <;> (try simp (disch := omega) only [wI, wU, wC]) <;> exact rfl); (exact (Enters.of Try.func53 rfl rfl)); (exact hnd); (focus (simp only [push_cast, seval, hy] <;> first | trivial | assumption | (refine ⟨?_, ?_⟩ <;> assumption) | (simp; done))); (try dsimp only [putA, optG]))
          repeat (first | apply Wp.seq | apply Wp.block | (apply Run.next; (simp only [push_cast, seval, hy] <;> (try simp (disch := omega) only [wI, wU, wC]) <;> exact rfl); (focus ((try simp only [push_cast, seval, hy]) <;> exact sT))) | ((first | apply Run.nil | apply Wp.skip); dsimp only [sQ, tQ, bQ]) | (apply Wp.run; (dsimp only [List.map] <;> exact rfl); exact rfl) | (apply Wp.exit; dsimp only [sQ, tQ, bQ]; simp only [reduceIte]) | (apply Run.gtrue; (simp only [push_cast, seval, hy] <;> (try simp (disch := omega) only [wI, wU, wC]) <;> exact rfl); (simp only [push_cast, seval, hy] <;> (try simp (disch := omega) only [wI, wU, wC]) <;> exact rfl)) | (apply Run.gfalse (.bool false); (simp only [push_cast, seval, hy] <;> (try simp (disch := omega) only [wI, wU, wC]) <;> exact rfl); dsimp only [S.put, optG]) | (apply Wp.condT; (simp only [push_cast, seval, hy] <;> (try simp (disch := omega) only [wI, wU, wC]) <;> exact rfl)) | (apply Wp.condF; (simp only [push_cast, seval, hy] <;> (try simp (disch := omega) only [wI, wU, wC]) <;> exact rfl)))
          refine ⟨(k + 1, v + 1, .row 2 [stA y]), ?_, ⟨by simp only; omega, fun j hj => ?_⟩, by simp only; omega⟩
          · simp only
            rw [hbs]
            (refine Le.of ?_ ?_ rfl rfl <;> (try simp only [push_cast, seval, hy]) <;> (try (with_reducible rfl)))
            all_goals simp
          · simp only at hj
            by_cases hjk : j = k
            · subst hjk; rw [hnn]; exact h4
            · exact hk2 j (by omega)
        · rw [if_pos (by omega), decide_eq_false h4] at hnd
          have := hnk (by omega)
          subst this
          repeat (first | apply Wp.seq | apply Wp.block | (apply Run.next; (simp only [push_cast, seval, hy] <;> (try simp (disch := omega) only [wI, wU, wC]) <;> exact rfl); (focus ((try simp only [push_cast, seval, hy]) <;> exact sT))) | ((first | apply Run.nil | apply Wp.skip); dsimp only [sQ, tQ, bQ]) | (apply Wp.run; (dsimp only [List.map] <;> exact rfl); exact rfl) | (apply Wp.exit; dsimp only [sQ, tQ, bQ]; simp only [reduceIte]))
          (apply Run.pureP; (simp only [push_cast, seval, hy] <;> (try simp (disch := omega) only [wI, wU, wC]) <;> exact rfl); (exact (Enters.of Try.func53 rfl rfl)); (exact hnd); (focus (simp only [push_cast, seval, hy] <;> first | trivial | assumption | (refine ⟨?_, ?_⟩ <;> assumption) | (simp; done))); (try dsimp only [putA, optG]))
          repeat (first | apply Wp.seq | apply Wp.block | (apply Run.next; (simp only [push_cast, seval, hy] <;> (try simp (disch := omega) only [wI, wU, wC]) <;> exact rfl); (focus ((try simp only [push_cast, seval, hy]) <;> exact sT))) | ((first | apply Run.nil | apply Wp.skip); dsimp only [sQ, tQ, bQ]) | (apply Wp.run; (dsimp only [List.map] <;> exact rfl); exact rfl) | (apply Wp.exit; dsimp only [sQ, tQ, bQ]; simp only [reduceIte]) | (apply Run.gtrue; (simp only [push_cast, seval, hy] <;> (try simp (disch := omega) only [wI, wU, wC]) <;> exact rfl); (simp only [push_cast, seval, hy] <;> (try simp (disch := omega) only [wI, wU, wC]) <;> exact rfl)) | (apply Run.gfalse (.bool false); (simp only [push_cast, seval, hy] <;> (try simp (disch := omega) only [wI, wU, wC]) <;> exact rfl); dsimp only [S.put, optG]) | (apply Wp.condT; (simp only [push_cast, seval, hy] <;> (try simp (disch := omega) only [wI, wU, wC]) <;> exact rfl)) | (apply Wp.condF; (simp only [push_cast, seval, hy] <;> (try simp (disch := omega) only [wI, wU, wC]) <;> exact rfl)))
          (apply Wp.ret; (try dsimp only [sQ, tQ, bQ]); apply leave0; exact rfl; (simp only [push_cast, seval, hy] <;> (try simp (disch := omega) only [wI, wU, wC]) <;> exact rfl); all_goals (try simp only [push_cast, seval, hy]); (try rfl))
      · intro hc
        simp only [decide_eq_false_iff_not, Int.ofNat_lt] at hc
        obtain rfl : k = ks.length := by omega
        have := hall hk2
        subst this
        repeat (first | apply Wp.seq | apply Wp.block | (apply Run.next; (simp only [push_cast, seval] <;> (try simp (disch := omega) only [wI, wU, wC]) <;> exact rfl); (focus ((try simp only [push_cast, seval]) <;> exact sT))) | ((first | apply Run.nil | apply Wp.skip); dsimp only [sQ, tQ, bQ]) | (apply Wp.run; (dsimp only [List.map] <;> exact rfl); exact rfl) | (apply Wp.exit; dsimp only [sQ, tQ, bQ]; simp only [reduceIte]))
        (apply Wp.freeze 2; (simp only [push_cast, seval] <;> (try simp (disch := omega) only [wI, wU, wC]) <;> exact rfl); (simp only [push_cast, seval] <;> (try simp (disch := omega) only [wI, wU, wC]) <;> exact rfl); (focus (try simp only [push_cast, seval]); (try (exact sT))); (focus (exact sT)))
        (apply Wp.ret; (try dsimp only [sQ, tQ, bQ]); apply leave0; exact rfl; (simp only [push_cast, seval] <;> (try simp (disch := omega) only [wI, wU, wC]) <;> exact rfl); all_goals (try simp only [push_cast, seval]); (try rfl))
        rw [hB]
  · rw [if_neg (fun h => h1 h.1), if_neg h1]
    generalize chkE ks ls = e at hck h1
    have he : decide (e = 0) = false := decide_eq_false h1
    (refine Spec.of_body Try.func21 rfl (by rw [Try.ntmps21]; simp) 0 (by simp) ?_; rw [Try.results21, Try.ntmps21]; simp only [entry, zipArgs, Nat.reduceAdd])
    repeat (first | apply Wp.seq | apply Wp.block | (apply Run.next; (simp only [push_cast, seval, he] <;> (try simp (disch := omega) only [wI, wU, wC]) <;> exact rfl); (focus ((try simp only [push_cast, seval, he]) <;> exact sT))) | ((first | apply Run.nil | apply Wp.skip); dsimp only [sQ, tQ, bQ]) | (apply Wp.run; (dsimp only [List.map] <;> exact rfl); exact rfl) | (apply Wp.exit; dsimp only [sQ, tQ, bQ]; simp only [reduceIte]))
    (apply Run.pureP; (simp only [push_cast, seval, he] <;> (try simp (disch := omega) only [wI, wU, wC]) <;> exact rfl); (exact (Enters.of Try.func28 rfl rfl)); (exact hck); (focus (simp only [push_cast, seval, he] <;> first | trivial | assumption | (refine ⟨?_, ?_⟩ <;> assumption) | (simp; done))); (try dsimp only [putA, optG]))
    repeat (first | apply Wp.seq | apply Wp.block | (apply Run.next; (simp only [push_cast, seval, he] <;> (try simp (disch := omega) only [wI, wU, wC]) <;> exact rfl); (focus ((try simp only [push_cast, seval, he]) <;> exact sT))) | ((first | apply Run.nil | apply Wp.skip); dsimp only [sQ, tQ, bQ]) | (apply Wp.run; (dsimp only [List.map] <;> exact rfl); exact rfl) | (apply Wp.exit; dsimp only [sQ, tQ, bQ]; simp only [reduceIte]) | (apply Run.gtrue; (simp only [push_cast, seval, he] <;> (try simp (disch := omega) only [wI, wU, wC]) <;> exact rfl); (simp only [push_cast, seval, he] <;> (try simp (disch := omega) only [wI, wU, wC]) <;> exact rfl)) | (apply Run.gfalse (.bool false); (simp only [push_cast, seval, he] <;> (try simp (disch := omega) only [wI, wU, wC]) <;> exact rfl); dsimp only [S.put, optG]) | (apply Wp.condT; (simp only [push_cast, seval, he] <;> (try simp (disch := omega) only [wI, wU, wC]) <;> exact rfl)) | (apply Wp.condF; (simp only [push_cast, seval, he] <;> (try simp (disch := omega) only [wI, wU, wC]) <;> exact rfl)))
    (apply Wp.ret; (try dsimp only [sQ, tQ, bQ]); apply leave0; exact rfl; (simp only [push_cast, seval, he] <;> (try simp (disch := omega) only [wI, wU, wC]) <;> exact rfl); all_goals (try simp only [push_cast, seval, he]); (try rfl))
end Go.Proofs.Try
set_option maxHeartbeats 8000000
namespace Go.Proofs.Try
open Go.Vg

/-! a plan is right if it is right kind by kind -/
def cS (ks : List St) (ls : List Ln) (i : Nat) : Nat := (ks.getD (ls.getD i ln0).kind.toNat st0).items.toNat
def okS (ks : List St) (ls : List Ln) (p : List Int) : Bool := !wrongB ks ls p (p.length - 1)
/-- the items of some loans -/
def pick (L J : List Int) : List Int := L.map fun i => J.getD i.toNat 0
theorem loanP_mono (ls : List Ln) (kind : Int) {n : Nat} : ∀ {N : Nat}, n ≤ N → ∃ R, loanP ls kind N = loanP ls kind n ++ R
  | 0, h => by obtain rfl : n = 0 := by omega
               exact ⟨[], by simp⟩
  | N + 1, h => by
    by_cases hn : n = N + 1
    · subst hn; exact ⟨[], by simp⟩
    · obtain ⟨R, hR⟩ := loanP_mono ls kind (n := n) (N := N) (by omega)
      rw [loanP_succ]
      split
      · exact ⟨R ++ [(N : Int)], by rw [hR, List.append_assoc]⟩
      · exact ⟨R, hR⟩
/-- the place of a loan among those of its kind -/
def plc (ls : List Ln) (kind : Int) (n : Nat) : Nat := (loanP ls kind n).length
theorem plc_succ (ls : List Ln) (kind : Int) (n : Nat) : plc ls kind (n + 1) = if (ls.getD n ln0).kind = kind then plc ls kind n + 1 else plc ls kind n := by
  unfold plc; rw [loanP_succ]
  by_cases h : (ls.getD n ln0).kind = kind
  · rw [if_pos (decide_eq_true h), if_pos h, List.length_append]; rfl
  · rw [if_neg (by rw [decide_eq_false h]; simp), if_neg h]
theorem loanP_at {ls : List Ln} {kind : Int} {n N : Nat} (h : n < N) (hk : (ls.getD n ln0).kind = kind) : plc ls kind n < (loanP ls kind N).length ∧ (loanP ls kind N).getD (plc ls kind n) 0 = (n : Int) := by
  obtain ⟨R, hR⟩ := loanP_mono ls kind (n := n + 1) (N := N) (by omega)
  have h1 : loanP ls kind (n + 1) = loanP ls kind n ++ [(n : Int)] := by rw [loanP_succ, if_pos (decide_eq_true hk)]
  rw [hR, h1]
  refine ⟨by simp [plc], ?_⟩
  rw [List.append_assoc]
  simp [plc]
theorem plc_at {ls : List Ln} {kind : Int} {N q : Nat} (h : q < (loanP ls kind N).length) : ∃ n : Nat, n < N ∧ (ls.getD n ln0).kind = kind ∧ (loanP ls kind N).getD q 0 = (n : Int) ∧ plc ls kind n = q := by
  induction N with
  | zero => simp [loanP] at h
  | succ N ih =>
    rw [loanP_succ] at h ⊢
    split at h
    · rename_i hk
      rw [if_pos hk]
      rw [List.length_append, List.length_singleton] at h
      by_cases hq : q < (loanP ls kind N).length
      · obtain ⟨n, h1, h2, h3, h4⟩ := ih hq
        exact ⟨n, by omega, h2, by rw [getD_left hq]; exact h3, h4⟩
      · obtain rfl : q = (loanP ls kind N).length := by omega
        exact ⟨N, by omega, of_decide_eq_true hk, by rw [getD_last], rfl⟩
    · rename_i hk
      rw [if_neg hk]
      obtain ⟨n, h1, h2, h3, h4⟩ := ih h
      exact ⟨n, by omega, h2, h3, h4⟩
section
variable {ks : List St} {ls : List Ln} {kind : Int}
end
/-- what each kind says, put together -/
def glue (ls : List Ln) (f : Nat → List Int) (n : Nat) : List Int := (List.range n).map fun i => (f (ls.getD i ln0).kind.toNat).getD (plc ls (ls.getD i ln0).kind i) 0
theorem glue_len (ls : List Ln) (f : Nat → List Int) (n : Nat) : (glue ls f n).length = n := by simp [glue]
end Go.Proofs.Try
set_option maxHeartbeats 8000000
namespace Go.Proofs.Try
open Go.Vg

/-! a store of one kind alone -/
end Go.Proofs.Try
set_option maxHeartbeats 8000000
namespace Go.Proofs.Try
open Go.Vg

/-! the document's list of all right plans -/
end Go.Proofs.Try
set_option maxHeartbeats 8000000
namespace Go.Proofs.Try
open Go.Vg

/-! the document's store of one kind -/
end Go.Proofs.Try
set_option maxHeartbeats 8000000
namespace Go.Proofs.Try
open Go.Vg

/-! how many items the document says are needed -/
end Go.Proofs.Try
set_option maxHeartbeats 8000000
namespace Go.Proofs.Try
open Go.Vg

/-! stores that the statements do not try -/
theorem any_yes {n i : Nat} {p : Nat → Bool} (h : i < n) (hp : p i = true) : (List.range n).any p = true := List.any_eq_true.2 ⟨i, List.mem_range.2 h, hp⟩
theorem any_no {n : Nat} {p : Nat → Bool} (h : ∀ i, i < n → p i = false) : (List.range n).any p = false := List.any_eq_false.2 fun i hi => by rw [h i (List.mem_range.1 hi)]; simp
def lgK (ks : List St) (i : Nat) : Bool := decide (i < 20) && (decide (4 < (ks.getD i st0).items) && decide ((ks.getD i st0).items ≤ 8))
def lgS (ks : List St) (ls : List Ln) : Bool := (decide (6 < (ls.length : Int)) && decide ((ls.length : Int) ≤ 20)) || (List.range ks.length).any (lgK ks)
theorem large_pure (ks : List St) (ls : List Ln) (hk : ks.length ≤ 9223372036854775807) (hl : ls.length ≤ 9223372036854775807) : Pure Try.prog 15 [storA ks ls] (.bool (lgS ks ls)) := by
  unfold lgS
  by_cases h1 : 6 < (ls.length : Int) ∧ (ls.length : Int) ≤ 20
  · have e1 : decide (6 < (ls.length : Int)) = true := decide_eq_true h1.1
    have e2 : decide ((ls.length : Int) ≤ 20) = true := decide_eq_true h1.2
    (refine Spec.of_body Try.func15 rfl (by rw [Try.ntmps15]; simp) 0 (by simp) ?_; rw [Try.results15, Try.ntmps15]; simp only [entry, zipArgs, Nat.reduceAdd])
    repeat (first | apply Wp.seq | apply Wp.block | (apply Run.next; (simp only [push_cast, seval, e1, e2] <;> (try simp (disch := omega) only [wI, wU, wC]) <;> exact rfl); (focus ((try simp only [push_cast, seval, e1, e2]) <;> exact sT))) | ((first | apply Run.nil | apply Wp.skip); dsimp only [sQ, tQ, bQ]) | (apply Wp.run; (dsimp only [List.map] <;> exact rfl); exact rfl) | (apply Wp.exit; dsimp only [sQ, tQ, bQ]; simp only [reduceIte]) | (apply Run.gtrue; (simp only [push_cast, seval, e1, e2] <;> (try simp (disch := omega) only [wI, wU, wC]) <;> exact rfl); (simp only [push_cast, seval, e1, e2] <;> (try simp (disch := omega) only [wI, wU, wC]) <;> exact rfl)) | (apply Run.gfalse (.bool false); (simp only [push_cast, seval, e1, e2] <;> (try simp (disch := omega) only [wI, wU, wC]) <;> exact rfl); dsimp only [S.put, optG]) | (apply Wp.condT; (simp only [push_cast, seval, e1, e2] <;> (try simp (disch := omega) only [wI, wU, wC]) <;> exact rfl)) | (apply Wp.condF; (simp only [push_cast, seval, e1, e2] <;> (try simp (disch := omega) only [wI, wU, wC]) <;> exact rfl)))
    (apply Wp.ret; (try dsimp only [sQ, tQ, bQ]); apply leave0; exact rfl; (simp only [push_cast, seval, e1, e2] <;> (try simp (disch := omega) only [wI, wU, wC]) <;> exact rfl); all_goals (try simp only [push_cast, seval, e1, e2]); (try rfl))
  · have e1 : (decide (6 < (ls.length : Int)) && decide ((ls.length : Int) ≤ 20)) = false := by
      rw [← Bool.not_eq_true, Bool.and_eq_true, decide_eq_true_eq, decide_eq_true_eq]; exact h1
    rw [e1, Bool.false_or]
    have hyes := fun i (h : i < ks.length) => any_yes (p := lgK ks) h
    have hno := any_no (n := ks.length) (p := lgK ks)
    have hlk : ∀ i, lgK ks i = (decide (i < 20) && (decide (4 < (ks.getD i st0).items) && decide ((ks.getD i st0).items ≤ 8))) := fun _ => rfl
    generalize (List.range ks.length).any (lgK ks) = g at hyes hno
    generalize lgK ks = p at hlk hyes hno
    (refine Spec.of_body Try.func15 rfl (by rw [Try.ntmps15]; simp) 0 (by simp) ?_; rw [Try.results15, Try.ntmps15]; simp only [entry, zipArgs, Nat.reduceAdd])
    repeat (first | apply Wp.seq | apply Wp.block | (apply Run.next; (simp only [push_cast, seval, e1] <;> (try simp (disch := omega) only [wI, wU, wC]) <;> exact rfl); (focus ((try simp only [push_cast, seval, e1]) <;> exact sT))) | ((first | apply Run.nil | apply Wp.skip); dsimp only [sQ, tQ, bQ]) | (apply Wp.run; (dsimp only [List.map] <;> exact rfl); exact rfl) | (apply Wp.exit; dsimp only [sQ, tQ, bQ]; simp only [reduceIte]) | (apply Run.gtrue; (simp only [push_cast, seval, e1] <;> (try simp (disch := omega) only [wI, wU, wC]) <;> exact rfl); (simp only [push_cast, seval, e1] <;> (try simp (disch := omega) only [wI, wU, wC]) <;> exact rfl)) | (apply Run.gfalse (.bool false); (simp only [push_cast, seval, e1] <;> (try simp (disch := omega) only [wI, wU, wC]) <;> exact rfl); dsimp only [S.put, optG]) | (apply Wp.condT; (simp only [push_cast, seval, e1] <;> (try simp (disch := omega) only [wI, wU, wC]) <;> exact rfl)) | (apply Wp.condF; (simp only [push_cast, seval, e1] <;> (try simp (disch := omega) only [wI, wU, wC]) <;> exact rfl)))
    refine Wp.loop (fun (k : Nat) => { t := [(1, .optr 0 0 0 0), (3, .int k)], m := [⟨0, .row 2 [storA ks ls]⟩], n := 41 }) (fun k => k ≤ ks.length ∧ k ≤ 20 ∧ ∀ i, i < k → p i = false) (fun k => ks.length - k) 0 ?_ ?_ ?_
    · (refine Le.of ?_ ?_ rfl rfl <;> (try simp only [push_cast, seval, e1]) <;> (try (with_reducible rfl)))
    · simp
    · rintro k ⟨hk1, hk3, hk2⟩
      have hye := hyes k
      have hlk1 := hlk k
      repeat (first | apply Wp.seq | apply Wp.block | (apply Run.next; (simp only [push_cast, seval, e1] <;> (try simp (disch := omega) only [wI, wU, wC]) <;> exact rfl); (focus ((try simp only [push_cast, seval, e1]) <;> exact sT))) | ((first | apply Run.nil | apply Wp.skip); dsimp only [sQ, tQ, bQ]) | (apply Wp.run; (dsimp only [List.map] <;> exact rfl); exact rfl) | (apply Wp.exit; dsimp only [sQ, tQ, bQ]; simp only [reduceIte]))
      (apply Wp.cond; (simp only [push_cast, seval, e1] <;> (try simp (disch := omega) only [wI, wU, wC]) <;> exact rfl))
      · intro hc
        simp only [Bool.and_eq_true, decide_eq_true_eq, Int.ofNat_lt] at hc
        specialize hye hc.1
        rw [decide_eq_true (show k < 20 by omega), Bool.true_and] at hlk1
        generalize hy : ks.getD k st0 = y at hlk1
        repeat (first | apply Wp.seq | apply Wp.block | (apply Run.next; (simp only [push_cast, seval, e1, hy] <;> (try simp (disch := omega) only [wI, wU, wC]) <;> exact rfl); (focus ((try simp only [push_cast, seval, e1, hy]) <;> exact sT))) | ((first | apply Run.nil | apply Wp.skip); dsimp only [sQ, tQ, bQ]) | (apply Wp.run; (dsimp only [List.map] <;> exact rfl); exact rfl) | (apply Wp.exit; dsimp only [sQ, tQ, bQ]; simp only [reduceIte]))
        (apply Wp.cond; (simp only [push_cast, seval, e1, hy] <;> (try simp (disch := omega) only [wI, wU, wC]) <;> exact rfl))
        · intro h2
          have := hye (by rw [hlk1]; exact h2)
          subst this
          repeat (first | apply Wp.seq | apply Wp.block | (apply Run.next; (simp only [push_cast, seval, e1, hy] <;> (try simp (disch := omega) only [wI, wU, wC]) <;> exact rfl); (focus ((try simp only [push_cast, seval, e1, hy]) <;> exact sT))) | ((first | apply Run.nil | apply Wp.skip); dsimp only [sQ, tQ, bQ]) | (apply Wp.run; (dsimp only [List.map] <;> exact rfl); exact rfl) | (apply Wp.exit; dsimp only [sQ, tQ, bQ]; simp only [reduceIte]))
          (apply Wp.ret; (try dsimp only [sQ, tQ, bQ]); apply leave0; exact rfl; (simp only [push_cast, seval, e1, hy] <;> (try simp (disch := omega) only [wI, wU, wC]) <;> exact rfl); all_goals (try simp only [push_cast, seval, e1, hy]); (try rfl))
        · intro h2
          repeat (first | apply Wp.seq | apply Wp.block | (apply Run.next; (simp only [push_cast, seval, e1, hy] <;> (try simp (disch := omega) only [wI, wU, wC]) <;> exact rfl); (focus ((try simp only [push_cast, seval, e1, hy]) <;> exact sT))) | ((first | apply Run.nil | apply Wp.skip); dsimp only [sQ, tQ, bQ]) | (apply Wp.run; (dsimp only [List.map] <;> exact rfl); exact rfl) | (apply Wp.exit; dsimp only [sQ, tQ, bQ]; simp only [reduceIte]))
          refine ⟨k + 1, ?_, ⟨by omega, by omega, fun i hi => ?_⟩, by omega⟩
          · (refine Le.of ?_ ?_ rfl rfl <;> (try simp only [push_cast, seval, e1, hy]) <;> (try (with_reducible rfl)))
          · by_cases hik : i = k
            · rw [hik, hlk1]; exact h2
            · exact hk2 i (by omega)
      · intro hc
        have hall : ∀ i, i < ks.length → p i = false := fun i hi => by
          by_cases hik : i < k
          · exact hk2 i hik
          · simp only [Bool.and_eq_false_iff, decide_eq_false_iff_not] at hc
            rw [hlk i, decide_eq_false (show ¬ i < 20 by omega)]; rfl
        have := hno hall
        subst this
        repeat (first | apply Wp.seq | apply Wp.block | (apply Run.next; (simp only [push_cast, seval, e1] <;> (try simp (disch := omega) only [wI, wU, wC]) <;> exact rfl); (focus ((try simp only [push_cast, seval, e1]) <;> exact sT))) | ((first | apply Run.nil | apply Wp.skip); dsimp only [sQ, tQ, bQ]) | (apply Wp.run; (dsimp only [List.map] <;> exact rfl); exact rfl) | (apply Wp.exit; dsimp only [sQ, tQ, bQ]; simp only [reduceIte]))
        (apply Wp.ret; (try dsimp only [sQ, tQ, bQ]); apply leave0; exact rfl; (simp only [push_cast, seval, e1] <;> (try simp (disch := omega) only [wI, wU, wC]) <;> exact rfl); all_goals (try simp only [push_cast, seval, e1]); (try rfl))
end Go.Proofs.Try
namespace Go.Proofs.Try
open Go.Vg
theorem named : Named Try.prog 130 := namedB_ok (by kernel_rfl)
theorem works_run : xF Try.prog 130 (xC Try.prog 130 100000) 16 [] [] = some (.bool true, []) := by kernel_rfl
theorem works_pure : Pure Try.prog 16 [] (.bool true) := xF_spec named mixed works_run
end Go.Proofs.Try
set_option maxHeartbeats 8000000
namespace Go.Proofs.Try
open Go.Vg

/-! Peak, Need and Buy -/
end Go.Proofs.Try
set_option maxHeartbeats 8000000
namespace Go.Proofs.Try
open Go.Vg

/-! what Plan does for each kind -/
abbrev refS (ks : List St) (ls : List Ln) : AV := .ref [.lst 2 (ks.map stA), .lst 5 (ls.map lnA)] 0
def srK (ks : List St) (ls : List Ln) (k : Nat) : Option (List Int) := srch (fun _ => (ks.getD k st0).items.toNat) (okK ls (ks.getD k st0).life (loanP ls (k : Int) ls.length)) (loanP ls (k : Int) ls.length).length []
theorem planDo_spec {ks : List St} {ls : List Ln} (hv : SV ks ls) {k : Nat} (hk : k < ks.length) {F : Mem} {N : Nat} (hF : F.length = N) (e0 e4 : Ent) :
    Go.Vg.Spec Try.prog 56 [.optr (N + 3) 1 0 0, .int k, refS ks ls] (F ++ blk N ks ls e0 e4 (ks.getD k st0).life (loanP ls (k : Int) ls.length) 0 [] (List.replicate (ks.getD k st0).items.toNat 0) (T0 (ks.getD k st0).items.toNat) [])
      (FsQ F [] N ks ls e0 e4 (ks.getD k st0).life (loanP ls (k : Int) ls.length) (ks.getD k st0).items.toNat [] (srK ks ls k)) := by
  have hl20 := hv.l20
  have hst := hv.st k hk
  have hps := possible_pure hv (k : Int) (ks.getD k st0).items (by omega) (by omega)
  rw [psV_ex hv (by omega) (by omega), Int.toNat_natCast] at hps
  have hLl := loanP_len ls (k : Int) ls.length
  have hLi := loanP_in ls (k : Int)
  have hfs := first_spec hv (ks.getD k st0).life hLi (by omega) (n := (ks.getD k st0).items.toNat) (by omega) (loanP ls (k : Int) ls.length).length (F := F) (G := []) (N := N) hF (e0 := e0) (e4 := e4) (vi := 0) (I := []) (T := T0 (ks.getD k st0).items.toNat) (by simp) (by simp) (fun a b _ h => by simp at h) (tO_nil (loanP ls (k : Int) ls.length) (ks.getD k st0).items.toNat)
  have hw0 := wO_nil ls (loanP ls (k : Int) ls.length) (ks.getD k st0).items.toNat
  have hT0 := tO_nil (loanP ls (k : Int) ls.length) (ks.getD k st0).items.toNat
  have hps : Pure Try.prog 57 [storA ks ls, .int k, .int (ks.getD k st0).items.toNat] (.bool (srK ks ls k).isSome) := by
    rw [Int.toNat_of_nonneg (by omega)]; exact hps
  have hfs : Go.Vg.Spec Try.prog 58 [.optr (N + 3) 1 0 0] (F ++ blk N ks ls e0 e4 (ks.getD k st0).life (loanP ls (k : Int) ls.length) 0 [] (List.replicate (ks.getD k st0).items.toNat 0) (T0 (ks.getD k st0).items.toNat) []) (FsQ F [] N ks ls e0 e4 (ks.getD k st0).life (loanP ls (k : Int) ls.length) (ks.getD k st0).items.toNat [] (srK ks ls k)) := by
    rw [hw0] at hfs; exact hfs
  have hQn : srK ks ls k = none → FsQ F [] N ks ls e0 e4 (ks.getD k st0).life (loanP ls (k : Int) ls.length) (ks.getD k st0).items.toNat [] (srK ks ls k) (.bool false) (F ++ blk N ks ls e0 e4 (ks.getD k st0).life (loanP ls (k : Int) ls.length) 0 [] (List.replicate (ks.getD k st0).items.toNat 0) (T0 (ks.getD k st0).items.toNat) []) := fun h => ⟨0, _, .inr ⟨h, rfl, hT0, by rw [hw0]⟩⟩
  have hQx : ∀ {x m'}, FsQ F [] N ks ls e0 e4 (ks.getD k st0).life (loanP ls (k : Int) ls.length) (ks.getD k st0).items.toNat [] (srK ks ls k) x m' → x = .bool (srK ks ls k).isSome := by
    rintro x m' ⟨vi', T', ⟨J, h1, h2, _⟩ | ⟨h1, h2, _⟩⟩
    · rw [h1, h2]; rfl
    · rw [h1, h2]; rfl
  generalize FsQ F [] N ks ls e0 e4 (ks.getD k st0).life (loanP ls (k : Int) ls.length) (ks.getD k st0).items.toNat [] (srK ks ls k) = Q at hfs hQn hQx
  generalize srK ks ls k = s at hps hQn hQx
  generalize hn : (ks.getD k st0).items.toNat = n at *
  generalize (ks.getD k st0).life = life at *
  have hTl : (T0 n).length = n := by simp [T0]
  generalize hTT : T0 n = T at *
  cases s with
  | none =>
    have hQn := hQn rfl
    simp only [Option.isSome_none] at hps
    (refine Spec.of_bodyA Try.func56 rfl (by rw [Try.ntmps56]; simp) ?_; rw [Try.results56, Try.ntmps56]; simp only [entry, zipArgs, Nat.reduceAdd])
    repeat (first | apply Wp.seq | apply Wp.block | (apply Run.next; (simp only [push_cast, seval, getF hF, getF0 hF, get7, lentR_len, hTl] <;> (try simp (disch := omega) only [wI, wU, wC]) <;> exact rfl); (focus ((try simp only [push_cast, seval, getF hF, getF0 hF, get7, lentR_len, hTl]) <;> exact sT))) | ((first | apply Run.nil | apply Wp.skip); dsimp only [sQ, tQ, bQ]) | (apply Wp.run; (dsimp only [List.map] <;> exact rfl); exact rfl) | (apply Wp.exit; dsimp only [sQ, tQ, bQ]; simp only [reduceIte]))
    (apply Wp.runD 8 mixed; (dsimp only [List.map] <;> exact rfl); exact rfl; kernel_rfl; (dsimp only [List.take] <;> exact rfl); (dsimp only [List.drop] <;> exact rfl); (((repeat (apply Abn.next; (simp only [push_cast, seval, getF hF, getF0 hF, get7, lentR_len, hTl] <;> (try simp (disch := omega) only [wI, wU, wC]) <;> exact rfl); (focus ((try simp only [push_cast, seval, getF hF, getF0 hF, get7, lentR_len, hTl]) <;> exact sT)))); (apply Abn.pureP; (simp only [push_cast, seval, getF hF, getF0 hF, get7, lentR_len, hTl] <;> (try simp (disch := omega) only [wI, wU, wC]) <;> exact rfl); (exact (Enters.of Try.func57 rfl rfl)); (exact hps); (focus (simp only [push_cast, seval, getF hF, getF0 hF, get7, lentR_len, hTl] <;> first | trivial | assumption | (refine ⟨?_, ?_⟩ <;> assumption) | (simp; done))); (try dsimp only [putA, optG])); (repeat (apply Abn.next; (simp only [push_cast, seval, getF hF, getF0 hF, get7, lentR_len, hTl] <;> (try simp (disch := omega) only [wI, wU, wC]) <;> exact rfl); (focus ((try simp only [push_cast, seval, getF hF, getF0 hF, get7, lentR_len, hTl]) <;> exact sT))))); exact Abn.nil))
    repeat (first | apply Wp.seq | apply Wp.block | (apply Run.next; (simp only [push_cast, seval, getF hF, getF0 hF, get7, lentR_len, hTl] <;> (try simp (disch := omega) only [wI, wU, wC]) <;> exact rfl); (focus ((try simp only [push_cast, seval, getF hF, getF0 hF, get7, lentR_len, hTl]) <;> exact sT))) | ((first | apply Run.nil | apply Wp.skip); dsimp only [sQ, tQ, bQ]) | (apply Wp.run; (dsimp only [List.map] <;> exact rfl); exact rfl) | (apply Wp.exit; dsimp only [sQ, tQ, bQ]; simp only [reduceIte]) | (apply Run.gtrue; (simp only [push_cast, seval, getF hF, getF0 hF, get7, lentR_len, hTl] <;> (try simp (disch := omega) only [wI, wU, wC]) <;> exact rfl); (simp only [push_cast, seval, getF hF, getF0 hF, get7, lentR_len, hTl] <;> (try simp (disch := omega) only [wI, wU, wC]) <;> exact rfl)) | (apply Run.gfalse (.bool false); (simp only [push_cast, seval, getF hF, getF0 hF, get7, lentR_len, hTl] <;> (try simp (disch := omega) only [wI, wU, wC]) <;> exact rfl); dsimp only [S.put, optG]) | (apply Wp.condT; (simp only [push_cast, seval, getF hF, getF0 hF, get7, lentR_len, hTl] <;> (try simp (disch := omega) only [wI, wU, wC]) <;> exact rfl)) | (apply Wp.condF; (simp only [push_cast, seval, getF hF, getF0 hF, get7, lentR_len, hTl] <;> (try simp (disch := omega) only [wI, wU, wC]) <;> exact rfl)))
    (apply Wp.ret; (try dsimp only [sQ, tQ, bQ]); apply leaveA; exact rfl; (simp only [push_cast, seval, getF hF, getF0 hF, get7, lentR_len, hTl] <;> (try simp (disch := omega) only [wI, wU, wC]) <;> exact rfl); (focus (first | (simp only [push_cast, seval, getF hF, getF0 hF, get7, lentR_len, hTl]; done) | trivial | (simp only [push_cast, seval, getF hF, getF0 hF, get7, lentR_len, hTl]; trivial) | (simp; done))); (try simp only [push_cast, seval, getF hF, getF0 hF, get7, lentR_len, hTl]))
    exact hQn
  | some J =>
    simp only [Option.isSome_some] at hps hQx
    (refine Spec.of_bodyA Try.func56 rfl (by rw [Try.ntmps56]; simp) ?_; rw [Try.results56, Try.ntmps56]; simp only [entry, zipArgs, Nat.reduceAdd])
    repeat (first | apply Wp.seq | apply Wp.block | (apply Run.next; (simp only [push_cast, seval, getF hF, getF0 hF, get7, lentR_len, hTl] <;> (try simp (disch := omega) only [wI, wU, wC]) <;> exact rfl); (focus ((try simp only [push_cast, seval, getF hF, getF0 hF, get7, lentR_len, hTl]) <;> exact sT))) | ((first | apply Run.nil | apply Wp.skip); dsimp only [sQ, tQ, bQ]) | (apply Wp.run; (dsimp only [List.map] <;> exact rfl); exact rfl) | (apply Wp.exit; dsimp only [sQ, tQ, bQ]; simp only [reduceIte]))
    (apply Wp.runD 8 mixed; (dsimp only [List.map] <;> exact rfl); exact rfl; kernel_rfl; (dsimp only [List.take] <;> exact rfl); (dsimp only [List.drop] <;> exact rfl); (((repeat (apply Abn.next; (simp only [push_cast, seval, getF hF, getF0 hF, get7, lentR_len, hTl] <;> (try simp (disch := omega) only [wI, wU, wC]) <;> exact rfl); (focus ((try simp only [push_cast, seval, getF hF, getF0 hF, get7, lentR_len, hTl]) <;> exact sT)))); (apply Abn.pureP; (simp only [push_cast, seval, getF hF, getF0 hF, get7, lentR_len, hTl] <;> (try simp (disch := omega) only [wI, wU, wC]) <;> exact rfl); (exact (Enters.of Try.func57 rfl rfl)); (exact hps); (focus (simp only [push_cast, seval, getF hF, getF0 hF, get7, lentR_len, hTl] <;> first | trivial | assumption | (refine ⟨?_, ?_⟩ <;> assumption) | (simp; done))); (try dsimp only [putA, optG])); (repeat (apply Abn.next; (simp only [push_cast, seval, getF hF, getF0 hF, get7, lentR_len, hTl] <;> (try simp (disch := omega) only [wI, wU, wC]) <;> exact rfl); (focus ((try simp only [push_cast, seval, getF hF, getF0 hF, get7, lentR_len, hTl]) <;> exact sT))))); exact Abn.nil))
    repeat (first | apply Wp.seq | apply Wp.block | (apply Run.next; (simp only [push_cast, seval, getF hF, getF0 hF, get7, lentR_len, hTl] <;> (try simp (disch := omega) only [wI, wU, wC]) <;> exact rfl); (focus ((try simp only [push_cast, seval, getF hF, getF0 hF, get7, lentR_len, hTl]) <;> exact sT))) | ((first | apply Run.nil | apply Wp.skip); dsimp only [sQ, tQ, bQ]) | (apply Wp.run; (dsimp only [List.map] <;> exact rfl); exact rfl) | (apply Wp.exit; dsimp only [sQ, tQ, bQ]; simp only [reduceIte]) | (apply Run.gtrue; (simp only [push_cast, seval, getF hF, getF0 hF, get7, lentR_len, hTl] <;> (try simp (disch := omega) only [wI, wU, wC]) <;> exact rfl); (simp only [push_cast, seval, getF hF, getF0 hF, get7, lentR_len, hTl] <;> (try simp (disch := omega) only [wI, wU, wC]) <;> exact rfl)) | (apply Run.gfalse (.bool false); (simp only [push_cast, seval, getF hF, getF0 hF, get7, lentR_len, hTl] <;> (try simp (disch := omega) only [wI, wU, wC]) <;> exact rfl); dsimp only [S.put, optG]) | (apply Wp.condT; (simp only [push_cast, seval, getF hF, getF0 hF, get7, lentR_len, hTl] <;> (try simp (disch := omega) only [wI, wU, wC]) <;> exact rfl)) | (apply Wp.condF; (simp only [push_cast, seval, getF hF, getF0 hF, get7, lentR_len, hTl] <;> (try simp (disch := omega) only [wI, wU, wC]) <;> exact rfl)))
    apply Run.spec (he := Enters.of Try.func58 rfl rfl) (hc := hfs)
    focus exact rfl
    focus (simp only [push_cast, seval, getF hF, getF0 hF, get7, lentR_len, hTl] <;> exact rfl)
    focus (simp only [push_cast, seval, getF hF, getF0 hF, get7, lentR_len, hTl] <;> (try simp (disch := omega) only [wI, wU, wC]) <;> exact rfl)
    intro x' m' hq
    obtain rfl := hQx hq
    dsimp only [S.put, optG]
    repeat (first | apply Wp.seq | apply Wp.block | (apply Run.next; (simp only [push_cast, seval, getF hF, getF0 hF, get7, lentR_len, hTl] <;> (try simp (disch := omega) only [wI, wU, wC]) <;> exact rfl); (focus ((try simp only [push_cast, seval, getF hF, getF0 hF, get7, lentR_len, hTl]) <;> exact sT))) | ((first | apply Run.nil | apply Wp.skip); dsimp only [sQ, tQ, bQ]) | (apply Wp.run; (dsimp only [List.map] <;> exact rfl); exact rfl) | (apply Wp.exit; dsimp only [sQ, tQ, bQ]; simp only [reduceIte]) | (apply Run.gtrue; (simp only [push_cast, seval, getF hF, getF0 hF, get7, lentR_len, hTl] <;> (try simp (disch := omega) only [wI, wU, wC]) <;> exact rfl); (simp only [push_cast, seval, getF hF, getF0 hF, get7, lentR_len, hTl] <;> (try simp (disch := omega) only [wI, wU, wC]) <;> exact rfl)) | (apply Run.gfalse (.bool false); (simp only [push_cast, seval, getF hF, getF0 hF, get7, lentR_len, hTl] <;> (try simp (disch := omega) only [wI, wU, wC]) <;> exact rfl); dsimp only [S.put, optG]) | (apply Wp.condT; (simp only [push_cast, seval, getF hF, getF0 hF, get7, lentR_len, hTl] <;> (try simp (disch := omega) only [wI, wU, wC]) <;> exact rfl)) | (apply Wp.condF; (simp only [push_cast, seval, getF hF, getF0 hF, get7, lentR_len, hTl] <;> (try simp (disch := omega) only [wI, wU, wC]) <;> exact rfl)))
    (apply Wp.ret; (try dsimp only [sQ, tQ, bQ]); apply leaveA; exact rfl; (simp only [push_cast, seval, getF hF, getF0 hF, get7, lentR_len, hTl] <;> (try simp (disch := omega) only [wI, wU, wC]) <;> exact rfl); (focus (first | (simp only [push_cast, seval, getF hF, getF0 hF, get7, lentR_len, hTl]; done) | trivial | (simp only [push_cast, seval, getF hF, getF0 hF, get7, lentR_len, hTl]; trivial) | (simp; done))); (try simp only [push_cast, seval, getF hF, getF0 hF, get7, lentR_len, hTl]))
    exact hq
end Go.Proofs.Try
