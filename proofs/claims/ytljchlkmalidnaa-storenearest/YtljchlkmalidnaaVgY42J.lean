/- A part of the proof of StoreNearest: contracts of functions, with plain laws that they need. -/
import Derived.Test.YtljchlkmalidnaaVgY40J
set_option linter.all false
set_option maxHeartbeats 8000000
namespace Go.Proofs.Try
open Go.Vg

/-! Repair -/
theorem rM_4 (a0 a1 a2 a3 : Ent) (c : Int) (R : Mem) : (rM a0 a1 a2 a3 c R)[4]? = some ⟨0, .row 1 [.int c]⟩ := rfl
theorem rM_s4 (a0 a1 a2 a3 : Ent) (c c' : Int) (R : Mem) : (rM a0 a1 a2 a3 c R).set 4 ⟨0, .row 1 [.int c']⟩ = rM a0 a1 a2 a3 c' R := rfl
def rkB (ks : List St) (kind lost : Int) : Bool := wi kind 0 ((ks.length : Int) - 1) && wi lost 0 ((ks.getD kind.toNat st0).items - 1)
def rpAll (ks : List St) (ls : List Ln) (pl : List Int) (kind lost : Int) : Bool := (List.range ks.length).all fun k => (rpK ks ls pl kind lost k).isSome
def rpG (ks : List St) (ls : List Ln) (pl : List Int) (kind lost : Int) : List Int := glue ls (rpF ks ls pl kind lost) ls.length
def rpE (ks : List St) (ls : List Ln) (pl : List Int) (kind lost : Int) : Int := if chk2E ks ls pl = 0 then (if rkB ks kind lost = true then (if rpAll ks ls pl kind lost = true then 0 else 101) else 1) else chk2E ks ls pl
def rpA (ks : List St) (ls : List Ln) (pl : List Int) (kind lost : Int) : AV := if chk2E ks ls pl = 0 ∧ rkB ks kind lost = true ∧ rpAll ks ls pl kind lost = true then .ints (rpG ks ls pl kind lost) else .emp
def rpN (ks : List St) (ls : List Ln) (pl : List Int) (kind lost : Int) : Int := if chk2E ks ls pl = 0 ∧ rkB ks kind lost = true ∧ rpAll ks ls pl kind lost = true then chK ks ls pl kind lost ks.length else 0
theorem Repair_pure (ks : List St) (ls : List Ln) (pl : List Int) (kind lost : Int) (hk : ks.length ≤ 9223372036854775807) (hl : ls.length ≤ 9223372036854775807) (hp : pl.length ≤ 9223372036854775807) : Pure Try.prog 41 [storA ks ls, .ints pl, .int kind, .int lost] (.tup [rpA ks ls pl kind lost, .int (rpN ks ls pl kind lost), .int (rpE ks ls pl kind lost)]) := by
  have hck := checked_pure ks ls pl hk hl hp
  unfold rpA rpN rpE
  by_cases h1 : chk2E ks ls pl = 0
  · obtain ⟨hv, hpl, _⟩ := chk2E_zero h1
    have hk8 := hv.k8
    have hkd := kinded_pure ks ls kind hk8
    rw [h1] at hck ⊢
    by_cases h2 : rkB ks kind lost = true
    · have h3 := h2
      unfold rkB at h3
      rw [Bool.and_eq_true] at h3
      have hkk := wi_iff.1 h3.1
      have hit := item_pure hv kind lost (by omega)
      rw [h3.1] at hkd
      rw [h3.2] at hit
      rw [if_pos rfl, if_pos h2]
      have hea := eachR_spec hv hpl kind lost ⟨0, .row 2 [storA ks ls]⟩ ⟨1, .row 1 []⟩ ⟨1, .row 1 []⟩ ⟨1, .row 1 []⟩
      have hno : ∀ k, k < ks.length → rpK ks ls pl kind lost k = none → rpAll ks ls pl kind lost = false := fun k hk h => range_no hk (by rw [h]; rfl)
      have hall : (∀ k, k < ks.length → (rpK ks ls pl kind lost k).isSome = true) → rpAll ks ls pl kind lost = true := fun h => range_all h
      generalize rpAll ks ls pl kind lost = ra at hno hall
      (refine Spec.of_body Try.func41 rfl (by rw [Try.ntmps41]; simp) 0 (by simp) ?_; rw [Try.results41, Try.ntmps41]; simp only [entry, zipArgs, Nat.reduceAdd])
      repeat (first | apply Wp.seq | apply Wp.block | (apply Run.next; (simp only [push_cast, seval] <;> (try simp (disch := omega) only [wI, wU, wC]) <;> exact rfl); (focus ((try simp only [push_cast, seval]) <;> exact sT))) | ((first | apply Run.nil | apply Wp.skip); dsimp only [sQ, tQ, bQ]) | (apply Wp.run; (dsimp only [List.map] <;> exact rfl); exact rfl) | (apply Wp.exit; dsimp only [sQ, tQ, bQ]; simp only [reduceIte]))
      (apply Run.pureP; (simp only [push_cast, seval] <;> (try simp (disch := omega) only [wI, wU, wC]) <;> exact rfl); (exact (Enters.of Try.func59 rfl rfl)); (exact hck); (focus (simp only [push_cast, seval] <;> first | trivial | assumption | (refine ⟨?_, ?_⟩ <;> assumption) | (simp; done))); (try dsimp only [putA, optG]))
      repeat (first | apply Wp.seq | apply Wp.block | (apply Run.next; (simp only [push_cast, seval] <;> (try simp (disch := omega) only [wI, wU, wC]) <;> exact rfl); (focus ((try simp only [push_cast, seval]) <;> exact sT))) | ((first | apply Run.nil | apply Wp.skip); dsimp only [sQ, tQ, bQ]) | (apply Wp.run; (dsimp only [List.map] <;> exact rfl); exact rfl) | (apply Wp.exit; dsimp only [sQ, tQ, bQ]; simp only [reduceIte]) | (apply Run.gtrue; (simp only [push_cast, seval] <;> (try simp (disch := omega) only [wI, wU, wC]) <;> exact rfl); (simp only [push_cast, seval] <;> (try simp (disch := omega) only [wI, wU, wC]) <;> exact rfl)) | (apply Run.gfalse (.bool false); (simp only [push_cast, seval] <;> (try simp (disch := omega) only [wI, wU, wC]) <;> exact rfl); dsimp only [S.put, optG]) | (apply Wp.condT; (simp only [push_cast, seval] <;> (try simp (disch := omega) only [wI, wU, wC]) <;> exact rfl)) | (apply Wp.condF; (simp only [push_cast, seval] <;> (try simp (disch := omega) only [wI, wU, wC]) <;> exact rfl)))
      (apply Run.pureP; (simp only [push_cast, seval] <;> (try simp (disch := omega) only [wI, wU, wC]) <;> exact rfl); (exact (Enters.of Try.func60 rfl rfl)); (exact hkd); (focus (simp only [push_cast, seval] <;> first | trivial | assumption | (refine ⟨?_, ?_⟩ <;> assumption) | (simp; done))); (try dsimp only [putA, optG]))
      repeat (first | apply Wp.seq | apply Wp.block | (apply Run.next; (simp only [push_cast, seval] <;> (try simp (disch := omega) only [wI, wU, wC]) <;> exact rfl); (focus ((try simp only [push_cast, seval]) <;> exact sT))) | ((first | apply Run.nil | apply Wp.skip); dsimp only [sQ, tQ, bQ]) | (apply Wp.run; (dsimp only [List.map] <;> exact rfl); exact rfl) | (apply Wp.exit; dsimp only [sQ, tQ, bQ]; simp only [reduceIte]) | (apply Run.gtrue; (simp only [push_cast, seval] <;> (try simp (disch := omega) only [wI, wU, wC]) <;> exact rfl); (simp only [push_cast, seval] <;> (try simp (disch := omega) only [wI, wU, wC]) <;> exact rfl)) | (apply Run.gfalse (.bool false); (simp only [push_cast, seval] <;> (try simp (disch := omega) only [wI, wU, wC]) <;> exact rfl); dsimp only [S.put, optG]) | (apply Wp.condT; (simp only [push_cast, seval] <;> (try simp (disch := omega) only [wI, wU, wC]) <;> exact rfl)) | (apply Wp.condF; (simp only [push_cast, seval] <;> (try simp (disch := omega) only [wI, wU, wC]) <;> exact rfl)))
      (apply Run.pureP; (simp only [push_cast, seval] <;> (try simp (disch := omega) only [wI, wU, wC]) <;> exact rfl); (exact (Enters.of Try.func73 rfl rfl)); (exact hit); (focus (simp only [push_cast, seval] <;> first | trivial | assumption | (refine ⟨?_, ?_⟩ <;> assumption) | (simp; done))); (try dsimp only [putA, optG]))
      repeat (first | apply Wp.seq | apply Wp.block | (apply Run.calm; exact rfl; (simp only [push_cast, seval] <;> (try simp (disch := omega) only [wI, wU, wC]) <;> exact rfl); (focus ((try simp only [push_cast, seval]) <;> exact sT))) | ((first | apply Run.nil | apply Wp.skip); dsimp only [sQ, tQ, bQ]) | (apply Wp.run; (dsimp only [List.map] <;> exact rfl); exact rfl) | (apply Wp.exit; dsimp only [sQ, tQ, bQ]; simp only [reduceIte]))
      (apply Wp.condF; (simp only [push_cast, seval] <;> (try simp (disch := omega) only [wI, wU, wC]) <;> exact rfl))
      (apply Wp.skip; dsimp only [sQ, tQ, bQ])
      (apply Wp.freezeP 5; (simp only [push_cast, seval] <;> (try simp (disch := omega) only [wI, wU, wC]) <;> exact rfl); (simp only [push_cast, seval] <;> (try simp (disch := omega) only [wI, wU, wC]) <;> exact rfl); exact rfl; (focus (first | (simp [AV.cells]; done) | (simp only [push_cast, seval]; done))); simp only [AV.cells, List.set_cons_succ, List.set_cons_zero])
      (apply Wp.freezeP 6; (simp only [push_cast, seval] <;> (try simp (disch := omega) only [wI, wU, wC]) <;> exact rfl); (simp only [push_cast, seval] <;> (try simp (disch := omega) only [wI, wU, wC]) <;> exact rfl); exact rfl; (focus (first | (simp [AV.cells]; done) | (simp only [push_cast, seval]; done))); simp only [AV.cells, List.set_cons_succ, List.set_cons_zero])
      (apply Wp.freezeP 7; (simp only [push_cast, seval] <;> (try simp (disch := omega) only [wI, wU, wC]) <;> exact rfl); (simp only [push_cast, seval] <;> (try simp (disch := omega) only [wI, wU, wC]) <;> exact rfl); exact rfl; (focus (first | (simp [AV.cells]; done) | (simp only [push_cast, seval]; done))); simp only [AV.cells, List.set_cons_succ, List.set_cons_zero])
      repeat (first | apply Wp.seq | apply Wp.block | (apply Run.next; (simp only [push_cast, seval] <;> (try simp (disch := omega) only [wI, wU, wC]) <;> exact rfl); (focus ((try simp only [push_cast, seval]) <;> exact sT))) | ((first | apply Run.nil | apply Wp.skip); dsimp only [sQ, tQ, bQ]) | (apply Wp.run; (dsimp only [List.map] <;> exact rfl); exact rfl) | (apply Wp.exit; dsimp only [sQ, tQ, bQ]; simp only [reduceIte]))
      apply Run.spec (he := Enters.of Try.func55 rfl rfl) (hc := hea)
      focus exact rfl
      focus (simp only [push_cast, seval] <;> exact rfl)
      focus (simp only [push_cast, seval] <;> (try simp (disch := omega) only [wI, wU, wC]) <;> exact rfl)
      rintro x m' ⟨c, R, rfl, ⟨⟨k, hk1, hk2⟩, rfl⟩ | ⟨h5, rfl, ⟨h6, rfl⟩ | ⟨h6, A, rfl⟩⟩⟩
      · have := hno k hk1 hk2
        subst this
        dsimp only [S.put, optG]
        repeat (first | apply Wp.seq | apply Wp.block | (apply Run.next; (simp only [push_cast, seval, rM_4, rM_s4] <;> (try simp (disch := omega) only [wI, wU, wC]) <;> exact rfl); (focus ((try simp only [push_cast, seval, rM_4, rM_s4]) <;> exact sT))) | ((first | apply Run.nil | apply Wp.skip); dsimp only [sQ, tQ, bQ]) | (apply Wp.run; (dsimp only [List.map] <;> exact rfl); exact rfl) | (apply Wp.exit; dsimp only [sQ, tQ, bQ]; simp only [reduceIte]))
        refine Run.isNil (e := 3) (b := true) (by simp only [push_cast, seval, rM_4, rM_s4]) (by simp only [push_cast, seval, rM_4, rM_s4]; rfl) ?_
        dsimp only [putA]
        repeat (first | apply Wp.seq | apply Wp.block | (apply Run.next; (simp only [push_cast, seval, rM_4, rM_s4] <;> (try simp (disch := omega) only [wI, wU, wC]) <;> exact rfl); (focus ((try simp only [push_cast, seval, rM_4, rM_s4]) <;> exact sT))) | ((first | apply Run.nil | apply Wp.skip); dsimp only [sQ, tQ, bQ]) | (apply Wp.run; (dsimp only [List.map] <;> exact rfl); exact rfl) | (apply Wp.exit; dsimp only [sQ, tQ, bQ]; simp only [reduceIte]) | (apply Run.gtrue; (simp only [push_cast, seval, rM_4, rM_s4] <;> (try simp (disch := omega) only [wI, wU, wC]) <;> exact rfl); (simp only [push_cast, seval, rM_4, rM_s4] <;> (try simp (disch := omega) only [wI, wU, wC]) <;> exact rfl)) | (apply Run.gfalse (.bool false); (simp only [push_cast, seval, rM_4, rM_s4] <;> (try simp (disch := omega) only [wI, wU, wC]) <;> exact rfl); dsimp only [S.put, optG]) | (apply Wp.condT; (simp only [push_cast, seval, rM_4, rM_s4] <;> (try simp (disch := omega) only [wI, wU, wC]) <;> exact rfl)) | (apply Wp.condF; (simp only [push_cast, seval, rM_4, rM_s4] <;> (try simp (disch := omega) only [wI, wU, wC]) <;> exact rfl)))
        (apply Wp.ret; (try dsimp only [sQ, tQ, bQ]); apply leave0; exact rfl; (simp only [push_cast, seval, rM_4, rM_s4] <;> (try simp (disch := omega) only [wI, wU, wC]) <;> exact rfl); all_goals (try simp only [push_cast, seval, rM_4, rM_s4]); (try rfl))
        simp [h2]
      · have := hall h5
        subst this
        have hgl : (rpG ks ls pl kind lost).length = ls.length := glue_len _ _ _
        have hpos : 0 < ls.length := List.length_pos_iff.2 h6
        rw [show glue ls (rpF ks ls pl kind lost) ls.length = rpG ks ls pl kind lost from rfl]
        generalize rpG ks ls pl kind lost = gl at hgl
        obtain ⟨a, gl, rfl⟩ : ∃ a l, gl = a :: l := by
          cases gl with
          | nil => simp at hgl; omega
          | cons a l => exact ⟨a, l, rfl⟩
        dsimp only [S.put, optG]
        repeat (first | apply Wp.seq | apply Wp.block | (apply Run.next; (simp only [push_cast, seval, rM_4, rM_s4] <;> (try simp (disch := omega) only [wI, wU, wC]) <;> exact rfl); (focus ((try simp only [push_cast, seval, rM_4, rM_s4]) <;> exact sT))) | ((first | apply Run.nil | apply Wp.skip); dsimp only [sQ, tQ, bQ]) | (apply Wp.run; (dsimp only [List.map] <;> exact rfl); exact rfl) | (apply Wp.exit; dsimp only [sQ, tQ, bQ]; simp only [reduceIte]))
        refine Run.isNil (e := 3) (b := false) (by simp only [push_cast, seval, rM_4, rM_s4]) (by simp only [push_cast, seval, rM_4, rM_s4]; rfl) ?_
        dsimp only [putA]
        repeat (first | apply Wp.seq | apply Wp.block | (apply Run.next; (simp only [push_cast, seval, rM_4, rM_s4] <;> (try simp (disch := omega) only [wI, wU, wC]) <;> exact rfl); (focus ((try simp only [push_cast, seval, rM_4, rM_s4]) <;> exact sT))) | ((first | apply Run.nil | apply Wp.skip); dsimp only [sQ, tQ, bQ]) | (apply Wp.run; (dsimp only [List.map] <;> exact rfl); exact rfl) | (apply Wp.exit; dsimp only [sQ, tQ, bQ]; simp only [reduceIte]) | (apply Run.gtrue; (simp only [push_cast, seval, rM_4, rM_s4] <;> (try simp (disch := omega) only [wI, wU, wC]) <;> exact rfl); (simp only [push_cast, seval, rM_4, rM_s4] <;> (try simp (disch := omega) only [wI, wU, wC]) <;> exact rfl)) | (apply Run.gfalse (.bool false); (simp only [push_cast, seval, rM_4, rM_s4] <;> (try simp (disch := omega) only [wI, wU, wC]) <;> exact rfl); dsimp only [S.put, optG]) | (apply Wp.condT; (simp only [push_cast, seval, rM_4, rM_s4] <;> (try simp (disch := omega) only [wI, wU, wC]) <;> exact rfl)) | (apply Wp.condF; (simp only [push_cast, seval, rM_4, rM_s4] <;> (try simp (disch := omega) only [wI, wU, wC]) <;> exact rfl)))
        (apply Wp.runE 3 3 mixed; (dsimp only [List.map] <;> exact rfl); exact rfl; kernel_rfl; ((repeat (apply Abe.next; exact rfl; (simp only [push_cast, seval, rM_4, rM_s4] <;> (try simp (disch := omega) only [wI, wU, wC]) <;> exact rfl); (focus ((try simp only [push_cast, seval, rM_4, rM_s4]) <;> exact sT)))); (apply Abe.eff; exact rfl; (simp only [push_cast, seval, rM_4, rM_s4] <;> (try simp (disch := omega) only [wI, wU, wC]) <;> exact rfl); (focus ((try simp only [push_cast, seval, rM_4, rM_s4]) <;> exact sT)); (try dsimp only [putA])); (repeat (apply Abe.next; exact rfl; (simp only [push_cast, seval, rM_4, rM_s4] <;> (try simp (disch := omega) only [wI, wU, wC]) <;> exact rfl); (focus ((try simp only [push_cast, seval, rM_4, rM_s4]) <;> exact sT)))); exact Abe.nil))
        repeat (first | apply Wp.seq | apply Wp.block | (apply Run.next; (simp only [push_cast, seval, rM_4, rM_s4] <;> (try simp (disch := omega) only [wI, wU, wC]) <;> exact rfl); (focus ((try simp only [push_cast, seval, rM_4, rM_s4]) <;> exact sT))) | ((first | apply Run.nil | apply Wp.skip); dsimp only [sQ, tQ, bQ]) | (apply Wp.run; (dsimp only [List.map] <;> exact rfl); exact rfl) | (apply Wp.exit; dsimp only [sQ, tQ, bQ]; simp only [reduceIte]) | (apply Run.gtrue; (simp only [push_cast, seval, rM_4, rM_s4] <;> (try simp (disch := omega) only [wI, wU, wC]) <;> exact rfl); (simp only [push_cast, seval, rM_4, rM_s4] <;> (try simp (disch := omega) only [wI, wU, wC]) <;> exact rfl)) | (apply Run.gfalse (.bool false); (simp only [push_cast, seval, rM_4, rM_s4] <;> (try simp (disch := omega) only [wI, wU, wC]) <;> exact rfl); dsimp only [S.put, optG]) | (apply Wp.condT; (simp only [push_cast, seval, rM_4, rM_s4] <;> (try simp (disch := omega) only [wI, wU, wC]) <;> exact rfl)) | (apply Wp.condF; (simp only [push_cast, seval, rM_4, rM_s4] <;> (try simp (disch := omega) only [wI, wU, wC]) <;> exact rfl)))
        (apply Wp.ret; (try dsimp only [sQ, tQ, bQ]); apply leave0; exact rfl; (simp only [push_cast, seval, rM_4, rM_s4] <;> (try simp (disch := omega) only [wI, wU, wC]) <;> exact rfl); all_goals (try simp only [push_cast, seval, rM_4, rM_s4]); (try rfl))
        simp [h2]
      · have := hall h5
        subst this
        subst h6
        dsimp only [S.put, optG]
        repeat (first | apply Wp.seq | apply Wp.block | (apply Run.next; (simp only [push_cast, seval, rM_4, rM_s4] <;> (try simp (disch := omega) only [wI, wU, wC]) <;> exact rfl); (focus ((try simp only [push_cast, seval, rM_4, rM_s4]) <;> exact sT))) | ((first | apply Run.nil | apply Wp.skip); dsimp only [sQ, tQ, bQ]) | (apply Wp.run; (dsimp only [List.map] <;> exact rfl); exact rfl) | (apply Wp.exit; dsimp only [sQ, tQ, bQ]; simp only [reduceIte]))
        refine Run.isNil (e := 3) (b := false) (by simp only [push_cast, seval, rM_4, rM_s4]) (by simp only [push_cast, seval, rM_4, rM_s4]; rfl) ?_
        dsimp only [putA]
        repeat (first | apply Wp.seq | apply Wp.block | (apply Run.next; (simp only [push_cast, seval, rM_4, rM_s4] <;> (try simp (disch := omega) only [wI, wU, wC]) <;> exact rfl); (focus ((try simp only [push_cast, seval, rM_4, rM_s4]) <;> exact sT))) | ((first | apply Run.nil | apply Wp.skip); dsimp only [sQ, tQ, bQ]) | (apply Wp.run; (dsimp only [List.map] <;> exact rfl); exact rfl) | (apply Wp.exit; dsimp only [sQ, tQ, bQ]; simp only [reduceIte]) | (apply Run.gtrue; (simp only [push_cast, seval, rM_4, rM_s4] <;> (try simp (disch := omega) only [wI, wU, wC]) <;> exact rfl); (simp only [push_cast, seval, rM_4, rM_s4] <;> (try simp (disch := omega) only [wI, wU, wC]) <;> exact rfl)) | (apply Run.gfalse (.bool false); (simp only [push_cast, seval, rM_4, rM_s4] <;> (try simp (disch := omega) only [wI, wU, wC]) <;> exact rfl); dsimp only [S.put, optG]) | (apply Wp.condT; (simp only [push_cast, seval, rM_4, rM_s4] <;> (try simp (disch := omega) only [wI, wU, wC]) <;> exact rfl)) | (apply Wp.condF; (simp only [push_cast, seval, rM_4, rM_s4] <;> (try simp (disch := omega) only [wI, wU, wC]) <;> exact rfl)))
        (apply Wp.runE 3 3 mixed; (dsimp only [List.map] <;> exact rfl); exact rfl; kernel_rfl; ((repeat (apply Abe.next; exact rfl; (simp only [push_cast, seval, rM_4, rM_s4] <;> (try simp (disch := omega) only [wI, wU, wC]) <;> exact rfl); (focus ((try simp only [push_cast, seval, rM_4, rM_s4]) <;> exact sT)))); (apply Abe.eff; exact rfl; (simp only [push_cast, seval, rM_4, rM_s4] <;> (try simp (disch := omega) only [wI, wU, wC]) <;> exact rfl); (focus ((try simp only [push_cast, seval, rM_4, rM_s4]) <;> exact sT)); (try dsimp only [putA])); (repeat (apply Abe.next; exact rfl; (simp only [push_cast, seval, rM_4, rM_s4] <;> (try simp (disch := omega) only [wI, wU, wC]) <;> exact rfl); (focus ((try simp only [push_cast, seval, rM_4, rM_s4]) <;> exact sT)))); exact Abe.nil))
        repeat (first | apply Wp.seq | apply Wp.block | (apply Run.next; (simp only [push_cast, seval, rM_4, rM_s4] <;> (try simp (disch := omega) only [wI, wU, wC]) <;> exact rfl); (focus ((try simp only [push_cast, seval, rM_4, rM_s4]) <;> exact sT))) | ((first | apply Run.nil | apply Wp.skip); dsimp only [sQ, tQ, bQ]) | (apply Wp.run; (dsimp only [List.map] <;> exact rfl); exact rfl) | (apply Wp.exit; dsimp only [sQ, tQ, bQ]; simp only [reduceIte]) | (apply Run.gtrue; (simp only [push_cast, seval, rM_4, rM_s4] <;> (try simp (disch := omega) only [wI, wU, wC]) <;> exact rfl); (simp only [push_cast, seval, rM_4, rM_s4] <;> (try simp (disch := omega) only [wI, wU, wC]) <;> exact rfl)) | (apply Run.gfalse (.bool false); (simp only [push_cast, seval, rM_4, rM_s4] <;> (try simp (disch := omega) only [wI, wU, wC]) <;> exact rfl); dsimp only [S.put, optG]) | (apply Wp.condT; (simp only [push_cast, seval, rM_4, rM_s4] <;> (try simp (disch := omega) only [wI, wU, wC]) <;> exact rfl)) | (apply Wp.condF; (simp only [push_cast, seval, rM_4, rM_s4] <;> (try simp (disch := omega) only [wI, wU, wC]) <;> exact rfl)))
        refine Wp.empt 8 1 (A := some A) (by (simp only [push_cast, seval, rM_4, rM_s4] <;> (try simp (disch := omega) only [wI, wU, wC]) <;> exact rfl)) ?_
        (apply Wp.ret; (try dsimp only [sQ, tQ, bQ]); apply leave0; exact rfl; (simp only [push_cast, seval, rM_4, rM_s4] <;> (try simp (disch := omega) only [wI, wU, wC]) <;> exact rfl); all_goals (try simp only [push_cast, seval, rM_4, rM_s4]); (try rfl))
        rw [if_pos h2, if_pos h2]; rfl
    · rw [if_pos rfl, if_neg h2, if_neg (fun h => h2 h.2.1), if_neg (fun h => h2 h.2.1)]
      by_cases h3 : wi kind 0 ((ks.length : Int) - 1) = true
      · have hkk := wi_iff.1 h3
        have hit := item_pure hv kind lost (by omega)
        have h4 : wi lost 0 ((ks.getD kind.toNat st0).items - 1) = false := by
          rw [← Bool.not_eq_true]; intro h; exact h2 (by unfold rkB; rw [h3, h]; rfl)
        rw [h3] at hkd
        rw [h4] at hit
        (refine Spec.of_body Try.func41 rfl (by rw [Try.ntmps41]; simp) 0 (by simp) ?_; rw [Try.results41, Try.ntmps41]; simp only [entry, zipArgs, Nat.reduceAdd])
        repeat (first | apply Wp.seq | apply Wp.block | (apply Run.next; (simp only [push_cast, seval] <;> (try simp (disch := omega) only [wI, wU, wC]) <;> exact rfl); (focus ((try simp only [push_cast, seval]) <;> exact sT))) | ((first | apply Run.nil | apply Wp.skip); dsimp only [sQ, tQ, bQ]) | (apply Wp.run; (dsimp only [List.map] <;> exact rfl); exact rfl) | (apply Wp.exit; dsimp only [sQ, tQ, bQ]; simp only [reduceIte]))
        (apply Run.pureP; (simp only [push_cast, seval] <;> (try simp (disch := omega) only [wI, wU, wC]) <;> exact rfl); (exact (Enters.of Try.func59 rfl rfl)); (exact hck); (focus (simp only [push_cast, seval] <;> first | trivial | assumption | (refine ⟨?_, ?_⟩ <;> assumption) | (simp; done))); (try dsimp only [putA, optG]))
        repeat (first | apply Wp.seq | apply Wp.block | (apply Run.next; (simp only [push_cast, seval] <;> (try simp (disch := omega) only [wI, wU, wC]) <;> exact rfl); (focus ((try simp only [push_cast, seval]) <;> exact sT))) | ((first | apply Run.nil | apply Wp.skip); dsimp only [sQ, tQ, bQ]) | (apply Wp.run; (dsimp only [List.map] <;> exact rfl); exact rfl) | (apply Wp.exit; dsimp only [sQ, tQ, bQ]; simp only [reduceIte]) | (apply Run.gtrue; (simp only [push_cast, seval] <;> (try simp (disch := omega) only [wI, wU, wC]) <;> exact rfl); (simp only [push_cast, seval] <;> (try simp (disch := omega) only [wI, wU, wC]) <;> exact rfl)) | (apply Run.gfalse (.bool false); (simp only [push_cast, seval] <;> (try simp (disch := omega) only [wI, wU, wC]) <;> exact rfl); dsimp only [S.put, optG]) | (apply Wp.condT; (simp only [push_cast, seval] <;> (try simp (disch := omega) only [wI, wU, wC]) <;> exact rfl)) | (apply Wp.condF; (simp only [push_cast, seval] <;> (try simp (disch := omega) only [wI, wU, wC]) <;> exact rfl)))
        (apply Run.pureP; (simp only [push_cast, seval] <;> (try simp (disch := omega) only [wI, wU, wC]) <;> exact rfl); (exact (Enters.of Try.func60 rfl rfl)); (exact hkd); (focus (simp only [push_cast, seval] <;> first | trivial | assumption | (refine ⟨?_, ?_⟩ <;> assumption) | (simp; done))); (try dsimp only [putA, optG]))
        repeat (first | apply Wp.seq | apply Wp.block | (apply Run.next; (simp only [push_cast, seval] <;> (try simp (disch := omega) only [wI, wU, wC]) <;> exact rfl); (focus ((try simp only [push_cast, seval]) <;> exact sT))) | ((first | apply Run.nil | apply Wp.skip); dsimp only [sQ, tQ, bQ]) | (apply Wp.run; (dsimp only [List.map] <;> exact rfl); exact rfl) | (apply Wp.exit; dsimp only [sQ, tQ, bQ]; simp only [reduceIte]) | (apply Run.gtrue; (simp only [push_cast, seval] <;> (try simp (disch := omega) only [wI, wU, wC]) <;> exact rfl); (simp only [push_cast, seval] <;> (try simp (disch := omega) only [wI, wU, wC]) <;> exact rfl)) | (apply Run.gfalse (.bool false); (simp only [push_cast, seval] <;> (try simp (disch := omega) only [wI, wU, wC]) <;> exact rfl); dsimp only [S.put, optG]) | (apply Wp.condT; (simp only [push_cast, seval] <;> (try simp (disch := omega) only [wI, wU, wC]) <;> exact rfl)) | (apply Wp.condF; (simp only [push_cast, seval] <;> (try simp (disch := omega) only [wI, wU, wC]) <;> exact rfl)))
        (apply Run.pureP; (simp only [push_cast, seval] <;> (try simp (disch := omega) only [wI, wU, wC]) <;> exact rfl); (exact (Enters.of Try.func73 rfl rfl)); (exact hit); (focus (simp only [push_cast, seval] <;> first | trivial | assumption | (refine ⟨?_, ?_⟩ <;> assumption) | (simp; done))); (try dsimp only [putA, optG]))
        repeat (first | apply Wp.seq | apply Wp.block | (apply Run.next; (simp only [push_cast, seval] <;> (try simp (disch := omega) only [wI, wU, wC]) <;> exact rfl); (focus ((try simp only [push_cast, seval]) <;> exact sT))) | ((first | apply Run.nil | apply Wp.skip); dsimp only [sQ, tQ, bQ]) | (apply Wp.run; (dsimp only [List.map] <;> exact rfl); exact rfl) | (apply Wp.exit; dsimp only [sQ, tQ, bQ]; simp only [reduceIte]) | (apply Run.gtrue; (simp only [push_cast, seval] <;> (try simp (disch := omega) only [wI, wU, wC]) <;> exact rfl); (simp only [push_cast, seval] <;> (try simp (disch := omega) only [wI, wU, wC]) <;> exact rfl)) | (apply Run.gfalse (.bool false); (simp only [push_cast, seval] <;> (try simp (disch := omega) only [wI, wU, wC]) <;> exact rfl); dsimp only [S.put, optG]) | (apply Wp.condT; (simp only [push_cast, seval] <;> (try simp (disch := omega) only [wI, wU, wC]) <;> exact rfl)) | (apply Wp.condF; (simp only [push_cast, seval] <;> (try simp (disch := omega) only [wI, wU, wC]) <;> exact rfl)))
        (apply Wp.ret; (try dsimp only [sQ, tQ, bQ]); apply leave0; exact rfl; (simp only [push_cast, seval] <;> (try simp (disch := omega) only [wI, wU, wC]) <;> exact rfl); all_goals (try simp only [push_cast, seval]); (try rfl))
      · rw [Bool.not_eq_true] at h3
        rw [h3] at hkd
        (refine Spec.of_body Try.func41 rfl (by rw [Try.ntmps41]; simp) 0 (by simp) ?_; rw [Try.results41, Try.ntmps41]; simp only [entry, zipArgs, Nat.reduceAdd])
        repeat (first | apply Wp.seq | apply Wp.block | (apply Run.next; (simp only [push_cast, seval] <;> (try simp (disch := omega) only [wI, wU, wC]) <;> exact rfl); (focus ((try simp only [push_cast, seval]) <;> exact sT))) | ((first | apply Run.nil | apply Wp.skip); dsimp only [sQ, tQ, bQ]) | (apply Wp.run; (dsimp only [List.map] <;> exact rfl); exact rfl) | (apply Wp.exit; dsimp only [sQ, tQ, bQ]; simp only [reduceIte]))
        (apply Run.pureP; (simp only [push_cast, seval] <;> (try simp (disch := omega) only [wI, wU, wC]) <;> exact rfl); (exact (Enters.of Try.func59 rfl rfl)); (exact hck); (focus (simp only [push_cast, seval] <;> first | trivial | assumption | (refine ⟨?_, ?_⟩ <;> assumption) | (simp; done))); (try dsimp only [putA, optG]))
        repeat (first | apply Wp.seq | apply Wp.block | (apply Run.next; (simp only [push_cast, seval] <;> (try simp (disch := omega) only [wI, wU, wC]) <;> exact rfl); (focus ((try simp only [push_cast, seval]) <;> exact sT))) | ((first | apply Run.nil | apply Wp.skip); dsimp only [sQ, tQ, bQ]) | (apply Wp.run; (dsimp only [List.map] <;> exact rfl); exact rfl) | (apply Wp.exit; dsimp only [sQ, tQ, bQ]; simp only [reduceIte]) | (apply Run.gtrue; (simp only [push_cast, seval] <;> (try simp (disch := omega) only [wI, wU, wC]) <;> exact rfl); (simp only [push_cast, seval] <;> (try simp (disch := omega) only [wI, wU, wC]) <;> exact rfl)) | (apply Run.gfalse (.bool false); (simp only [push_cast, seval] <;> (try simp (disch := omega) only [wI, wU, wC]) <;> exact rfl); dsimp only [S.put, optG]) | (apply Wp.condT; (simp only [push_cast, seval] <;> (try simp (disch := omega) only [wI, wU, wC]) <;> exact rfl)) | (apply Wp.condF; (simp only [push_cast, seval] <;> (try simp (disch := omega) only [wI, wU, wC]) <;> exact rfl)))
        (apply Run.pureP; (simp only [push_cast, seval] <;> (try simp (disch := omega) only [wI, wU, wC]) <;> exact rfl); (exact (Enters.of Try.func60 rfl rfl)); (exact hkd); (focus (simp only [push_cast, seval] <;> first | trivial | assumption | (refine ⟨?_, ?_⟩ <;> assumption) | (simp; done))); (try dsimp only [putA, optG]))
        repeat (first | apply Wp.seq | apply Wp.block | (apply Run.next; (simp only [push_cast, seval] <;> (try simp (disch := omega) only [wI, wU, wC]) <;> exact rfl); (focus ((try simp only [push_cast, seval]) <;> exact sT))) | ((first | apply Run.nil | apply Wp.skip); dsimp only [sQ, tQ, bQ]) | (apply Wp.run; (dsimp only [List.map] <;> exact rfl); exact rfl) | (apply Wp.exit; dsimp only [sQ, tQ, bQ]; simp only [reduceIte]) | (apply Run.gtrue; (simp only [push_cast, seval] <;> (try simp (disch := omega) only [wI, wU, wC]) <;> exact rfl); (simp only [push_cast, seval] <;> (try simp (disch := omega) only [wI, wU, wC]) <;> exact rfl)) | (apply Run.gfalse (.bool false); (simp only [push_cast, seval] <;> (try simp (disch := omega) only [wI, wU, wC]) <;> exact rfl); dsimp only [S.put, optG]) | (apply Wp.condT; (simp only [push_cast, seval] <;> (try simp (disch := omega) only [wI, wU, wC]) <;> exact rfl)) | (apply Wp.condF; (simp only [push_cast, seval] <;> (try simp (disch := omega) only [wI, wU, wC]) <;> exact rfl)))
        (apply Wp.ret; (try dsimp only [sQ, tQ, bQ]); apply leave0; exact rfl; (simp only [push_cast, seval] <;> (try simp (disch := omega) only [wI, wU, wC]) <;> exact rfl); all_goals (try simp only [push_cast, seval]); (try rfl))
  · rw [if_neg (fun h => h1 h.1), if_neg (fun h => h1 h.1), if_neg h1]
    generalize chk2E ks ls pl = e at hck h1
    have he : decide (e = 0) = false := decide_eq_false h1
    (refine Spec.of_body Try.func41 rfl (by rw [Try.ntmps41]; simp) 0 (by simp) ?_; rw [Try.results41, Try.ntmps41]; simp only [entry, zipArgs, Nat.reduceAdd])
    repeat (first | apply Wp.seq | apply Wp.block | (apply Run.next; (simp only [push_cast, seval, he] <;> (try simp (disch := omega) only [wI, wU, wC]) <;> exact rfl); (focus ((try simp only [push_cast, seval, he]) <;> exact sT))) | ((first | apply Run.nil | apply Wp.skip); dsimp only [sQ, tQ, bQ]) | (apply Wp.run; (dsimp only [List.map] <;> exact rfl); exact rfl) | (apply Wp.exit; dsimp only [sQ, tQ, bQ]; simp only [reduceIte]))
    (apply Run.pureP; (simp only [push_cast, seval, he] <;> (try simp (disch := omega) only [wI, wU, wC]) <;> exact rfl); (exact (Enters.of Try.func59 rfl rfl)); (exact hck); (focus (simp only [push_cast, seval, he] <;> first | trivial | assumption | (refine ⟨?_, ?_⟩ <;> assumption) | (simp; done))); (try dsimp only [putA, optG]))
    repeat (first | apply Wp.seq | apply Wp.block | (apply Run.next; (simp only [push_cast, seval, he] <;> (try simp (disch := omega) only [wI, wU, wC]) <;> exact rfl); (focus ((try simp only [push_cast, seval, he]) <;> exact sT))) | ((first | apply Run.nil | apply Wp.skip); dsimp only [sQ, tQ, bQ]) | (apply Wp.run; (dsimp only [List.map] <;> exact rfl); exact rfl) | (apply Wp.exit; dsimp only [sQ, tQ, bQ]; simp only [reduceIte]) | (apply Run.gtrue; (simp only [push_cast, seval, he] <;> (try simp (disch := omega) only [wI, wU, wC]) <;> exact rfl); (simp only [push_cast, seval, he] <;> (try simp (disch := omega) only [wI, wU, wC]) <;> exact rfl)) | (apply Run.gfalse (.bool false); (simp only [push_cast, seval, he] <;> (try simp (disch := omega) only [wI, wU, wC]) <;> exact rfl); dsimp only [S.put, optG]) | (apply Wp.condT; (simp only [push_cast, seval, he] <;> (try simp (disch := omega) only [wI, wU, wC]) <;> exact rfl)) | (apply Wp.condF; (simp only [push_cast, seval, he] <;> (try simp (disch := omega) only [wI, wU, wC]) <;> exact rfl)))
    (apply Wp.ret; (try dsimp only [sQ, tQ, bQ]); apply leave0; exact rfl; (simp only [push_cast, seval, he] <;> (try simp (disch := omega) only [wI, wU, wC]) <;> exact rfl); all_goals (try simp only [push_cast, seval, he]); (try rfl))
end Go.Proofs.Try
set_option maxHeartbeats 8000000
namespace Go.Proofs.Try
open Go.Vg

/-! the nearest right plan is the nearest one of each kind -/
theorem glue_lex {ks : List St} {ls : List Ln} (hv : SV ks ls) {f : Nat → List Int} {J : List Int} (hJ : J.length = ls.length) (hfl : ∀ k, k < ks.length → (f k).length = (loanP ls (k : Int) ls.length).length) (h : ∀ k, k < ks.length → f k = pick (loanP ls (k : Int) ls.length) J ∨ LxT (f k) (pick (loanP ls (k : Int) ls.length) J)) : glue ls f ls.length = J ∨ LxT (glue ls f ls.length) J := by
  have hgl := glue_len ls f ls.length
  rcases first_diff (n := ls.length) (glue ls f ls.length) J hgl hJ with he | ⟨i, h4, h5, h6⟩
  · exact .inl he
  · right
    refine ⟨i, by rw [hgl]; exact h4, h5, ?_⟩
    have hki := (hv.ln i h4).1
    obtain ⟨k, hk⟩ : ∃ k : Nat, (ls.getD i ln0).kind = (k : Int) := ⟨(ls.getD i ln0).kind.toNat, by omega⟩
    have hkk : k < ks.length := by omega
    obtain ⟨g1, g2⟩ := loanP_at (N := ls.length) h4 hk
    have hpg := pick_glue (hfl k hkk)
    have hpe := pick_ext g1 rfl h5
    rw [hpg] at hpe
    have hgi : (f k).getD (plc ls (k : Int) i) 0 = (glue ls f ls.length).getD i 0 := by rw [glue_get h4, hk, Int.toNat_natCast]
    have hpi : (pick (loanP ls (k : Int) ls.length) J).getD (plc ls (k : Int) i) 0 = J.getD i 0 := by rw [pick_get g1, g2, Int.toNat_natCast]
    rcases h k hkk with e | ⟨a, a1, a2, a3⟩
    · rw [e] at hgi; rw [hgi] at hpi; exact absurd hpi h6
    · have hg : ∀ {A B : List Int} {n m : Nat}, A.take n = B.take n → m < n → A.getD m 0 = B.getD m 0 := by
        intro A B n m e hm
        have := congrArg (fun l => l.getD m 0) e
        simpa [List.getD_eq_getElem?_getD, List.getElem?_take, hm] using this
      rcases Nat.lt_trichotomy a (plc ls (k : Int) i) with h7 | h7 | h7
      · have := hg hpe h7; omega
      · subst h7; omega
      · have := hg a2 h7; omega
/-- in how many a plan differs, kind by kind -/
def pF (pl : List Int) (q : Nat) : Int := pl.getD q 0
theorem df_kinds {ks : List St} {ls : List Ln} (hv : SV ks ls) (pl J : List Int) : ∀ n, n ≤ ls.length → dfN (pF pl) J n = sumN (fun k => dfN (lkP pl (loanP ls (k : Int) ls.length)) (pick (loanP ls (k : Int) ls.length) J) (plc ls (k : Int) n)) ks.length
  | 0, _ => by
    have : ∀ m, sumN (fun k : Nat => dfN (lkP pl (loanP ls (k : Int) ls.length)) (pick (loanP ls (k : Int) ls.length) J) (plc ls (k : Int) 0)) m = 0 := by
      intro m
      induction m with
      | zero => rfl
      | succ m ih => simp only [sumN, ih]; rfl
    rw [this]; rfl
  | n + 1, hn => by
    have ih := df_kinds hv pl J n (by omega)
    have hki := (hv.ln n (by omega)).1
    obtain ⟨k0, hk0⟩ : ∃ k : Nat, (ls.getD n ln0).kind = (k : Int) := ⟨(ls.getD n ln0).kind.toNat, by omega⟩
    have e : (fun k : Nat => dfN (lkP pl (loanP ls (k : Int) ls.length)) (pick (loanP ls (k : Int) ls.length) J) (plc ls (k : Int) (n + 1))) = fun k : Nat => dfN (lkP pl (loanP ls (k : Int) ls.length)) (pick (loanP ls (k : Int) ls.length) J) (plc ls (k : Int) n) + (if k = k0 then (if pl.getD n 0 = J.getD n 0 then 0 else 1) else 0) := by
      funext k
      rw [plc_succ]
      by_cases hk : k = k0
      · subst hk
        obtain ⟨h1, h2⟩ := loanP_at (N := ls.length) (by omega) hk0
        rw [if_pos hk0, if_pos rfl]
        simp only [dfN]
        rw [pick_get h1, h2, Int.toNat_natCast, show lkP pl (loanP ls (k : Int) ls.length) (plc ls (k : Int) n) = pl.getD n 0 by unfold lkP; rw [h2, Int.toNat_natCast]]
        split <;> omega
      · rw [if_neg (by rw [hk0]; omega), if_neg hk]; omega
    rw [e, sum_add, ← ih, sum_one, if_pos (by omega)]
    simp only [dfN]
    show (if pl.getD n 0 = J.getD n 0 then _ else _) = _
    split <;> omega
theorem df_sum {ks : List St} {ls : List Ln} (hv : SV ks ls) (pl : List Int) {J : List Int} (hJ : J.length = ls.length) : dfI (pF pl) J = sumN (fun k => dL pl (loanP ls (k : Int) ls.length) (pick (loanP ls (k : Int) ls.length) J)) ks.length := by
  unfold dfI
  rw [hJ, df_kinds hv pl J ls.length (Nat.le_refl _)]
  congr 1
  funext k
  unfold dL dfI
  rw [pick_len]; rfl
theorem sum_ge {f g : Nat → Int} : ∀ {n : Nat}, (∀ k, k < n → f k ≤ g k) → sumN f n ≤ sumN g n ∧ (sumN f n = sumN g n → ∀ k, k < n → f k = g k)
  | 0, _ => ⟨Int.le_refl _, fun _ k hk => by omega⟩
  | n + 1, h => by
    obtain ⟨h1, h2⟩ := sum_ge (n := n) (fun k hk => h k (by omega))
    have h3 := h n (by omega)
    simp only [sumN]
    refine ⟨by omega, fun he k hk => ?_⟩
    by_cases hkn : k = n
    · subst hkn; omega
    · exact h2 (by omega) k (by omega)
theorem sum_ext {f g : Nat → Int} : ∀ {n : Nat}, (∀ k, k < n → f k = g k) → sumN f n = sumN g n
  | 0, _ => rfl
  | n + 1, h => by simp only [sumN, sum_ext (n := n) (fun k hk => h k (by omega)), h n (by omega)]
/-- whether a plan uses an item -/
def usB (ls : List Ln) (J : List Int) (kind item : Int) : Bool := (List.range J.length).any fun i => decide ((ls.getD i ln0).kind = kind) && decide (J.getD i 0 = item)
theorem okX_take {ls : List Ln} {life : Int} {L : List Int} {lost : Int} {J : List Int} {q : Nat} (h : q < J.length) : okX ls life L lost (J.take (q + 1)) = (okK ls life L (J.take (q + 1)) && !decide (J.getD q 0 = lost)) := by
  unfold okX
  rw [List.length_take, Nat.min_eq_left (by omega), Nat.add_sub_cancel]
  congr 3
  simp only [List.getD_eq_getElem?_getD, List.getElem?_take]
  rw [if_pos (by omega)]
abbrev kdL (ks : List St) (ls : List Ln) (lost : Int) (k : Nat) : List (List Int) := plL (fun _ => (ks.getD k st0).items.toNat) (okX ls (ks.getD k st0).life (loanP ls (k : Int) ls.length) lost) (loanP ls (k : Int) ls.length).length []
theorem kd_mem {ks : List St} {ls : List Ln} {lost : Int} {k : Nat} {J : List Int} : J ∈ kdL ks ls lost k ↔ J.length = (loanP ls (k : Int) ls.length).length ∧ RtF (fun _ => (ks.getD k st0).items.toNat) (okK ls (ks.getD k st0).life (loanP ls (k : Int) ls.length)) 0 J ∧ ∀ q, q < J.length → J.getD q 0 ≠ lost := by
  rw [plL_mem]
  constructor
  · rintro ⟨h1, _, h3⟩
    refine ⟨by simpa using h1, fun q hq1 hq2 => ?_, fun q hq => ?_⟩
    · obtain ⟨j, a1, a2, a3⟩ := h3 q hq1 hq2
      rw [okX_take hq2, Bool.and_eq_true] at a3
      exact ⟨j, a1, a2, a3.1⟩
    · obtain ⟨j, a1, a2, a3⟩ := h3 q (by simp) hq
      rw [okX_take hq, Bool.and_eq_true, Bool.not_eq_true', decide_eq_false_iff_not] at a3
      exact a3.2
  · rintro ⟨h1, h2, h3⟩
    refine ⟨by simpa using h1, by simp, fun q hq1 hq2 => ?_⟩
    obtain ⟨j, a1, a2, a3⟩ := h2 q (by omega) hq2
    refine ⟨j, a1, a2, ?_⟩
    rw [okX_take hq2, a3, decide_eq_false (h3 q hq2)]; rfl
/-- right, and without the item, is that in all kinds -/
theorem near_kinds {ks : List St} {ls : List Ln} (hv : SV ks ls) {kind lost : Int} (hl : 0 ≤ lost) {J : List Int} (hJ : J.length = ls.length) : (RtF (cS ks ls) (okS ks ls) 0 J ∧ usB ls J kind lost = false) ↔ ∀ k : Nat, k < ks.length → pick (loanP ls (k : Int) ls.length) J ∈ kdL ks ls (lostK kind lost k) k := by
  rw [right_kinds hv hJ]
  constructor
  · rintro ⟨h1, h2⟩ k hk
    refine kd_mem.2 ⟨pick_len _ _, h1 k hk, fun q hq => ?_⟩
    rw [pick_len] at hq
    obtain ⟨n, a1, a2, a3, _⟩ := plc_at hq
    rw [pick_get hq, a3, Int.toNat_natCast]
    unfold lostK
    split
    · rename_i hkk
      have h3 := List.any_eq_false.1 h2 n (List.mem_range.2 (by omega))
      simp only [Bool.and_eq_true, decide_eq_true_eq, not_and] at h3
      exact h3 (by rw [a2]; exact hkk)
    · obtain ⟨j, b1, b2, _⟩ := h1 k hk q (by omega) (by rw [pick_len]; exact hq)
      rw [pick_get hq, a3, Int.toNat_natCast] at b2
      omega
  · intro h
    refine ⟨fun k hk => (kd_mem.1 (h k hk)).2.1, ?_⟩
    refine List.any_eq_false.2 fun i hi => ?_
    rw [List.mem_range] at hi
    simp only [Bool.and_eq_true, decide_eq_true_eq, not_and]
    intro hki
    have hk := (hv.ln i (by omega)).1
    obtain ⟨k, rfl⟩ : ∃ k : Nat, kind = (k : Int) := ⟨kind.toNat, by omega⟩
    obtain ⟨g1, g2⟩ := loanP_at (N := ls.length) (by omega) hki
    have := (kd_mem.1 (h k (by omega))).2.2 (plc ls (k : Int) i) (by rw [pick_len]; exact g1)
    rw [pick_get g1, g2, Int.toNat_natCast, lostK, if_pos rfl] at this
    exact this
theorem rpK_best {ks : List St} {ls : List Ln} {pl : List Int} {kind lost : Int} {k : Nat} : (rpK ks ls pl kind lost k = none ∧ kdL ks ls (lostK kind lost k) k = []) ∨ ∃ J, rpK ks ls pl kind lost k = some (J, dL pl (loanP ls (k : Int) ls.length) J) ∧ BestIn (dL pl (loanP ls (k : Int) ls.length)) (fun x => x ∈ kdL ks ls (lostK kind lost k) k) J :=
  stF_best (D := dL pl (loanP ls (k : Int) ls.length)) plL_sorted
theorem chK_sum (ks : List St) (ls : List Ln) (pl : List Int) (kind lost : Int) : ∀ n, chK ks ls pl kind lost n = sumN (fun k => mA (rpK ks ls pl kind lost k)) n
  | 0 => rfl
  | n + 1 => by simp only [chK, sumN, chK_sum ks ls pl kind lost n]
/-- the right plans that do not use the item -/
def NearP (ks : List St) (ls : List Ln) (kind lost : Int) (J : List Int) : Prop := J.length = ls.length ∧ RtF (cS ks ls) (okS ks ls) 0 J ∧ usB ls J kind lost = false
theorem near_none {ks : List St} {ls : List Ln} (hv : SV ks ls) {pl : List Int} {kind lost : Int} (hl : 0 ≤ lost) {k : Nat} (hk : k < ks.length) (h : rpK ks ls pl kind lost k = none) : ∀ J, ¬ NearP ks ls kind lost J := by
  rintro J ⟨h1, h2⟩
  have h3 := (near_kinds hv hl h1).1 h2 k hk
  rcases rpK_best (ks := ks) (ls := ls) (pl := pl) (kind := kind) (lost := lost) (k := k) with ⟨_, h4⟩ | ⟨J', h4, _⟩
  · rw [h4] at h3; cases h3
  · rw [h] at h4; cases h4
theorem near_best {ks : List St} {ls : List Ln} (hv : SV ks ls) {pl : List Int} {kind lost : Int} (hl : 0 ≤ lost) (h : ∀ k, k < ks.length → (rpK ks ls pl kind lost k).isSome = true) : BestIn (dfI (pF pl)) (NearP ks ls kind lost) (glue ls (rpF ks ls pl kind lost) ls.length) ∧ dfI (pF pl) (glue ls (rpF ks ls pl kind lost) ls.length) = chK ks ls pl kind lost ks.length := by
  have hb : ∀ k, k < ks.length → rpK ks ls pl kind lost k = some (rpF ks ls pl kind lost k, dL pl (loanP ls (k : Int) ls.length) (rpF ks ls pl kind lost k)) ∧ BestIn (dL pl (loanP ls (k : Int) ls.length)) (fun x => x ∈ kdL ks ls (lostK kind lost k) k) (rpF ks ls pl kind lost k) := by
    intro k hk
    rcases rpK_best (ks := ks) (ls := ls) (pl := pl) (kind := kind) (lost := lost) (k := k) with ⟨h4, _⟩ | ⟨J', h4, h5⟩
    · have := h k hk; rw [h4] at this; cases this
    · have e : rpF ks ls pl kind lost k = J' := by unfold rpF; rw [h4]; rfl
      rw [e]; exact ⟨h4, h5⟩
  have hfl : ∀ k, k < ks.length → (rpF ks ls pl kind lost k).length = (loanP ls (k : Int) ls.length).length := fun k hk => (kd_mem.1 (hb k hk).2.1).1
  have hgl := glue_len ls (rpF ks ls pl kind lost) ls.length
  have hds : dfI (pF pl) (glue ls (rpF ks ls pl kind lost) ls.length) = sumN (fun k => dL pl (loanP ls (k : Int) ls.length) (rpF ks ls pl kind lost k)) ks.length := by
    rw [df_sum hv pl hgl]
    exact sum_ext fun k hk => by rw [pick_glue (hfl k hk)]
  refine ⟨⟨⟨hgl, (near_kinds hv hl hgl).2 fun k hk => ?_⟩, fun J hJ => ?_⟩, ?_⟩
  · rw [pick_glue (hfl k hk)]; exact (hb k hk).2.1
  · obtain ⟨j1, j2⟩ := hJ
    have hm := (near_kinds hv hl j1).1 j2
    have hc := fun k hk => (hb k hk).2.2 _ (hm k hk)
    obtain ⟨s1, s2⟩ := sum_ge (f := fun k => dL pl (loanP ls (k : Int) ls.length) (rpF ks ls pl kind lost k)) (g := fun k => dL pl (loanP ls (k : Int) ls.length) (pick (loanP ls (k : Int) ls.length) J)) (n := ks.length) (fun k hk => by
      rcases hc k hk with a | ⟨a, _⟩
      · omega
      · omega)
    rw [hds, df_sum hv pl j1]
    by_cases he : sumN (fun k => dL pl (loanP ls (k : Int) ls.length) (rpF ks ls pl kind lost k)) ks.length = sumN (fun k => dL pl (loanP ls (k : Int) ls.length) (pick (loanP ls (k : Int) ls.length) J)) ks.length
    · right
      refine ⟨he, glue_lex hv j1 hfl fun k hk => ?_⟩
      have hek := s2 he k hk
      rcases hc k hk with a | ⟨_, a⟩
      · omega
      · exact a
    · left; omega
  · rw [hds, chK_sum]
    exact sum_ext fun k hk => by rw [(hb k hk).1]; rfl
end Go.Proofs.Try
set_option maxHeartbeats 8000000
namespace Go.Proofs.Try
open Go.Vg

/-! the document's Repair -/
theorem Differ_pure (a b : List Int) (h : a.length ≤ b.length) (hb : b.length ≤ 9223372036854775807) : Pure Try.prog 44 [.ints a, .ints b] (.int (dfI (pF b) a)) := by
  unfold dfI
  have hbd := fun n => dfN_bd (pF b) a n
  have hs : ∀ n, dfN (pF b) a (n + 1) = if b.getD n 0 = a.getD n 0 then dfN (pF b) a n else dfN (pF b) a n + 1 := fun _ => rfl
  have h0 : dfN (pF b) a 0 = 0 := rfl
  generalize dfN (pF b) a = f at hbd hs h0
  (refine Spec.of_body Try.func44 rfl (by rw [Try.ntmps44]; simp) 0 (by simp) ?_; rw [Try.results44, Try.ntmps44]; simp only [entry, zipArgs, Nat.reduceAdd])
  repeat (first | apply Wp.seq | apply Wp.block | (apply Run.next; (simp only [push_cast, seval] <;> (try simp (disch := omega) only [wI, wU, wC]) <;> exact rfl); (focus ((try simp only [push_cast, seval]) <;> exact sT))) | ((first | apply Run.nil | apply Wp.skip); dsimp only [sQ, tQ, bQ]) | (apply Wp.run; (dsimp only [List.map] <;> exact rfl); exact rfl) | (apply Wp.exit; dsimp only [sQ, tQ, bQ]; simp only [reduceIte]))
  refine Wp.loop (fun (k : Nat) => { t := [(0, .ints a), (1, .ints b), (5, .int (f k)), (6, .int k)], m := [], n := 25 }) (fun k => k ≤ a.length) (fun k => a.length - k) 0 ?_ ?_ ?_
  · rw [h0]
    (refine Le.of ?_ ?_ rfl rfl <;> (try simp only [push_cast, seval]) <;> (try (with_reducible rfl)))
  · simp
  · intro k hk
    have hbk := hbd k
    have hsk := hs k
    generalize hfk : f k = d at hbk hsk
    repeat (first | apply Wp.seq | apply Wp.block | (apply Run.next; (simp only [push_cast, seval] <;> (try simp (disch := omega) only [wI, wU, wC]) <;> exact rfl); (focus ((try simp only [push_cast, seval]) <;> exact sT))) | ((first | apply Run.nil | apply Wp.skip); dsimp only [sQ, tQ, bQ]) | (apply Wp.run; (dsimp only [List.map] <;> exact rfl); exact rfl) | (apply Wp.exit; dsimp only [sQ, tQ, bQ]; simp only [reduceIte]))
    (apply Wp.cond; (simp only [push_cast, seval] <;> (try simp (disch := omega) only [wI, wU, wC]) <;> exact rfl))
    · intro hc
      simp only [decide_eq_true_eq, Int.ofNat_lt] at hc
      generalize hx : a.getD k 0 = x at hsk
      generalize hy : b.getD k 0 = y at hsk
      repeat (first | apply Wp.seq | apply Wp.block | (apply Run.next; (simp only [push_cast, seval, hx, hy] <;> (try simp (disch := omega) only [wI, wU, wC]) <;> exact rfl); (focus ((try simp only [push_cast, seval, hx, hy]) <;> exact sT))) | ((first | apply Run.nil | apply Wp.skip); dsimp only [sQ, tQ, bQ]) | (apply Wp.run; (dsimp only [List.map] <;> exact rfl); exact rfl) | (apply Wp.exit; dsimp only [sQ, tQ, bQ]; simp only [reduceIte]))
      (apply Wp.runD 9 mixed; (dsimp only [List.map] <;> exact rfl); exact rfl; kernel_rfl; (dsimp only [List.take] <;> exact rfl); (dsimp only [List.drop] <;> exact rfl); (((repeat (apply Abn.next; (simp only [push_cast, seval, hx, hy] <;> (try simp (disch := omega) only [wI, wU, wC]) <;> exact rfl); (focus ((try simp only [push_cast, seval, hx, hy]) <;> exact sT))))); exact Abn.nil))
      repeat (first | apply Wp.seq | apply Wp.block | (apply Run.next; (simp only [push_cast, seval, hx, hy] <;> (try simp (disch := omega) only [wI, wU, wC]) <;> exact rfl); (focus ((try simp only [push_cast, seval, hx, hy]) <;> exact sT))) | ((first | apply Run.nil | apply Wp.skip); dsimp only [sQ, tQ, bQ]) | (apply Wp.run; (dsimp only [List.map] <;> exact rfl); exact rfl) | (apply Wp.exit; dsimp only [sQ, tQ, bQ]; simp only [reduceIte]))
      (apply Wp.cond; (simp only [push_cast, seval, hx, hy] <;> (try simp (disch := omega) only [wI, wU, wC]) <;> exact rfl))
      · intro h2
        simp only [Bool.not_eq_true', decide_eq_false_iff_not] at h2
        rw [if_neg (fun e => h2 e.symm)] at hsk
        repeat (first | apply Wp.seq | apply Wp.block | (apply Run.next; (simp only [push_cast, seval, hx, hy] <;> (try simp (disch := omega) only [wI, wU, wC]) <;> exact rfl); (focus ((try simp only [push_cast, seval, hx, hy]) <;> exact sT))) | ((first | apply Run.nil | apply Wp.skip); dsimp only [sQ, tQ, bQ]) | (apply Wp.run; (dsimp only [List.map] <;> exact rfl); exact rfl) | (apply Wp.exit; dsimp only [sQ, tQ, bQ]; simp only [reduceIte]))
        refine ⟨k + 1, ?_, by omega, by omega⟩
        rw [hsk]
        (refine Le.of ?_ ?_ rfl rfl <;> (try simp only [push_cast, seval, hx, hy]) <;> (try (with_reducible rfl)))
      · intro h2
        simp only [Bool.not_eq_false', decide_eq_true_eq] at h2
        rw [if_pos h2.symm] at hsk
        repeat (first | apply Wp.seq | apply Wp.block | (apply Run.next; (simp only [push_cast, seval, hx, hy] <;> (try simp (disch := omega) only [wI, wU, wC]) <;> exact rfl); (focus ((try simp only [push_cast, seval, hx, hy]) <;> exact sT))) | ((first | apply Run.nil | apply Wp.skip); dsimp only [sQ, tQ, bQ]) | (apply Wp.run; (dsimp only [List.map] <;> exact rfl); exact rfl) | (apply Wp.exit; dsimp only [sQ, tQ, bQ]; simp only [reduceIte]))
        refine ⟨k + 1, ?_, by omega, by omega⟩
        rw [hsk]
        (refine Le.of ?_ ?_ rfl rfl <;> (try simp only [push_cast, seval, hx, hy]) <;> (try (with_reducible rfl)))
    · intro hc
      simp only [decide_eq_false_iff_not, Int.ofNat_lt] at hc
      obtain rfl : k = a.length := by omega
      repeat (first | apply Wp.seq | apply Wp.block | (apply Run.next; (simp only [push_cast, seval] <;> (try simp (disch := omega) only [wI, wU, wC]) <;> exact rfl); (focus ((try simp only [push_cast, seval]) <;> exact sT))) | ((first | apply Run.nil | apply Wp.skip); dsimp only [sQ, tQ, bQ]) | (apply Wp.run; (dsimp only [List.map] <;> exact rfl); exact rfl) | (apply Wp.exit; dsimp only [sQ, tQ, bQ]; simp only [reduceIte]))
      (apply Wp.ret; (try dsimp only [sQ, tQ, bQ]); apply leave0; exact rfl; (simp only [push_cast, seval] <;> (try simp (disch := omega) only [wI, wU, wC]) <;> exact rfl); all_goals (try simp only [push_cast, seval]); (try rfl))
      rw [hfk]
theorem Uses_pure (ks : List St) (ls : List Ln) (J : List Int) (kind item : Int) (h : J.length ≤ ls.length) (hl : ls.length ≤ 9223372036854775807) : Pure Try.prog 77 [storA ks ls, .ints J, .int kind, .int item] (.bool (usB ls J kind item)) := by
  have hyes := fun i (hi : i < J.length) => any_yes (p := fun i => decide ((ls.getD i ln0).kind = kind) && decide (J.getD i 0 = item)) hi
  have hno := any_no (n := J.length) (p := fun i => decide ((ls.getD i ln0).kind = kind) && decide (J.getD i 0 = item))
  unfold usB
  generalize ((List.range J.length).any fun i => decide ((ls.getD i ln0).kind = kind) && decide (J.getD i 0 = item)) = g at hyes hno
  (refine Spec.of_body Try.func77 rfl (by rw [Try.ntmps77]; simp) 0 (by simp) ?_; rw [Try.results77, Try.ntmps77]; simp only [entry, zipArgs, Nat.reduceAdd])
  repeat (first | apply Wp.seq | apply Wp.block | (apply Run.next; (simp only [push_cast, seval] <;> (try simp (disch := omega) only [wI, wU, wC]) <;> exact rfl); (focus ((try simp only [push_cast, seval]) <;> exact sT))) | ((first | apply Run.nil | apply Wp.skip); dsimp only [sQ, tQ, bQ]) | (apply Wp.run; (dsimp only [List.map] <;> exact rfl); exact rfl) | (apply Wp.exit; dsimp only [sQ, tQ, bQ]; simp only [reduceIte]))
  refine Wp.loop (fun (k : Nat) => { t := [(1, .ints J), (2, .int kind), (3, .int item), (4, .optr 0 0 0 0), (9, .int k)], m := [⟨0, .row 2 [storA ks ls]⟩], n := 32 }) (fun k => k ≤ J.length ∧ ∀ i, i < k → (decide ((ls.getD i ln0).kind = kind) && decide (J.getD i 0 = item)) = false) (fun k => J.length - k) 0 ?_ ?_ ?_
  · (refine Le.of ?_ ?_ rfl rfl <;> (try simp only [push_cast, seval]) <;> (try (with_reducible rfl)))
  · simp
  · rintro k ⟨hk1, hk2⟩
    have hyk := hyes k
    repeat (first | apply Wp.seq | apply Wp.block | (apply Run.next; (simp only [push_cast, seval] <;> (try simp (disch := omega) only [wI, wU, wC]) <;> exact rfl); (focus ((try simp only [push_cast, seval]) <;> exact sT))) | ((first | apply Run.nil | apply Wp.skip); dsimp only [sQ, tQ, bQ]) | (apply Wp.run; (dsimp only [List.map] <;> exact rfl); exact rfl) | (apply Wp.exit; dsimp only [sQ, tQ, bQ]; simp only [reduceIte]))
    (apply Wp.cond; (simp only [push_cast, seval] <;> (try simp (disch := omega) only [wI, wU, wC]) <;> exact rfl))
    · intro hc
      simp only [decide_eq_true_eq, Int.ofNat_lt] at hc
      have hyk := hyk hc
      have hk2' := hk2
      generalize hx : ls.getD k ln0 = x at hyk
      generalize hj : J.getD k 0 = j at hyk
      repeat (first | apply Wp.seq | apply Wp.block | (apply Run.next; (simp only [push_cast, seval, hx, hj] <;> (try simp (disch := omega) only [wI, wU, wC]) <;> exact rfl); (focus ((try simp only [push_cast, seval, hx, hj]) <;> exact sT))) | ((first | apply Run.nil | apply Wp.skip); dsimp only [sQ, tQ, bQ]) | (apply Wp.run; (dsimp only [List.map] <;> exact rfl); exact rfl) | (apply Wp.exit; dsimp only [sQ, tQ, bQ]; simp only [reduceIte]))
      (apply Wp.cond; (simp only [push_cast, seval, hx, hj] <;> (try simp (disch := omega) only [wI, wU, wC]) <;> exact rfl))
      · intro h2
        have := hyk h2
        subst this
        repeat (first | apply Wp.seq | apply Wp.block | (apply Run.next; (simp only [push_cast, seval, hx, hj] <;> (try simp (disch := omega) only [wI, wU, wC]) <;> exact rfl); (focus ((try simp only [push_cast, seval, hx, hj]) <;> exact sT))) | ((first | apply Run.nil | apply Wp.skip); dsimp only [sQ, tQ, bQ]) | (apply Wp.run; (dsimp only [List.map] <;> exact rfl); exact rfl) | (apply Wp.exit; dsimp only [sQ, tQ, bQ]; simp only [reduceIte]))
        (apply Wp.ret; (try dsimp only [sQ, tQ, bQ]); apply leave0; exact rfl; (simp only [push_cast, seval, hx, hj] <;> (try simp (disch := omega) only [wI, wU, wC]) <;> exact rfl); all_goals (try simp only [push_cast, seval, hx, hj]); (try rfl))
      · intro h2
        repeat (first | apply Wp.seq | apply Wp.block | (apply Run.next; (simp only [push_cast, seval, hx, hj] <;> (try simp (disch := omega) only [wI, wU, wC]) <;> exact rfl); (focus ((try simp only [push_cast, seval, hx, hj]) <;> exact sT))) | ((first | apply Run.nil | apply Wp.skip); dsimp only [sQ, tQ, bQ]) | (apply Wp.run; (dsimp only [List.map] <;> exact rfl); exact rfl) | (apply Wp.exit; dsimp only [sQ, tQ, bQ]; simp only [reduceIte]))
        refine ⟨k + 1, ?_, ⟨by omega, fun i hi => ?_⟩, by omega⟩
        · (refine Le.of ?_ ?_ rfl rfl <;> (try simp only [push_cast, seval, hx, hj]) <;> (try (with_reducible rfl)))
        · by_cases hik : i = k
          · rw [hik, hx, hj]; exact h2
          · exact hk2' i (by omega)
    · intro hc
      simp only [decide_eq_false_iff_not, Int.ofNat_lt] at hc
      obtain rfl : k = J.length := by omega
      have := hno hk2
      subst this
      repeat (first | apply Wp.seq | apply Wp.block | (apply Run.next; (simp only [push_cast, seval] <;> (try simp (disch := omega) only [wI, wU, wC]) <;> exact rfl); (focus ((try simp only [push_cast, seval]) <;> exact sT))) | ((first | apply Run.nil | apply Wp.skip); dsimp only [sQ, tQ, bQ]) | (apply Wp.run; (dsimp only [List.map] <;> exact rfl); exact rfl) | (apply Wp.exit; dsimp only [sQ, tQ, bQ]; simp only [reduceIte]))
      (apply Wp.ret; (try dsimp only [sQ, tQ, bQ]); apply leave0; exact rfl; (simp only [push_cast, seval] <;> (try simp (disch := omega) only [wI, wU, wC]) <;> exact rfl); all_goals (try simp only [push_cast, seval]); (try rfl))
end Go.Proofs.Try
set_option maxHeartbeats 8000000
namespace Go.Proofs.Try
open Go.Vg

/-! what a right plan uses up -/
structure RP (ks : List St) (ls : List Ln) (J : List Int) : Prop where
  len : J.length = ls.length
  rt : RtF (cS ks ls) (okS ks ls) 0 J
theorem RP.item {ks : List St} {ls : List Ln} {J : List Int} (h : RP ks ls J) {i : Nat} (hi : i < ls.length) : 0 ≤ J.getD i 0 ∧ J.getD i 0 < ((ks.getD (ls.getD i ln0).kind.toNat st0).items.toNat : Int) := by
  obtain ⟨j, h1, h2, _⟩ := h.rt i (by omega) (by rw [h.len]; exact hi)
  unfold cS at h1
  omega
theorem RP.chk {ks : List St} {ls : List Ln} {J : List Int} (h : RP ks ls J) (hc : chkE ks ls = 0) : chk2E ks ls J = 0 := by
  have hv := chkE_ok hc
  have hb : checkB ks ls = true := by rw [← chkE_ne, hc]; rfl
  unfold chk2E
  rw [if_pos hb, if_pos]
  unfold planB
  rw [decide_eq_true h.len, Bool.true_and]
  refine range_all fun i hi => ?_
  rw [h.len] at hi
  have h1 := h.item hi
  have h2 := hv.st (ls.getD i ln0).kind.toNat (by have := (hv.ln i hi).1; omega)
  unfold plB
  rw [wi_iff]; omega
end Go.Proofs.Try
set_option maxHeartbeats 8000000
namespace Go.Proofs.Try
open Go.Vg

def lentP (ls : List Ln) (p : List Int) (j n : Int) : Nat → List Int
  | 0 => []
  | i + 1 => if (decide ((ls.getD i ln0).kind = j) && decide (p.getD i 0 = n)) = true then lentP ls p j n i ++ [(i : Int)] else lentP ls p j n i
def wornP (ls : List Ln) (p : List Int) (j n : Int) : Nat → Int
  | 0 => 0
  | i + 1 => if (decide ((ls.getD i ln0).kind = j) && decide (p.getD i 0 = n)) = true then wornP ls p j n i + (ls.getD i ln0).uses else wornP ls p j n i
theorem lentP_mem (ls : List Ln) (p : List Int) (j n : Int) : ∀ i, ∀ x ∈ lentP ls p j n i, 0 ≤ x ∧ x < (i : Int)
  | 0, x, h => by simp [lentP] at h
  | i + 1, x, h => by
    simp only [lentP] at h
    split at h
    · rcases List.mem_append.1 h with h | h
      · have := lentP_mem ls p j n i x h; omega
      · simp at h; omega
    · have := lentP_mem ls p j n i x h; omega
theorem lentP_len (ls : List Ln) (p : List Int) (j n : Int) : ∀ i, (lentP ls p j n i).length ≤ i
  | 0 => by simp [lentP]
  | i + 1 => by have := lentP_len ls p j n i; simp only [lentP]; split <;> simp <;> omega
theorem wornP_sum (ls : List Ln) (p : List Int) (i : Nat) : ∀ k, wornP ls p (ls.getD i ln0).kind (p.getD i 0) k = sumU ls p i k
  | 0 => rfl
  | k + 1 => by simp only [wornP, sumU, mateB, wornP_sum ls p i k]; rfl
theorem lentP_clash (ls : List Ln) (p : List Int) (i : Nat) : ∀ k, ((lentP ls p (ls.getD i ln0).kind (p.getD i 0) k).any fun x => ovB (ls.getD x.toNat ln0) (ls.getD i ln0)) = clashB ls p i k
  | 0 => rfl
  | k + 1 => by
    have ih := lentP_clash ls p i k
    simp only [lentP, clashB, mateB]
    split
    · rename_i h
      rw [h, List.any_append, ih]; simp
    · rename_i h
      rw [ih]
      simp only [Bool.not_eq_true] at h
      rw [h]; simp
theorem wornP_bd {ks : List St} {ls : List Ln} (hv : SV ks ls) (p : List Int) (j n : Int) : ∀ i, i ≤ ls.length → 0 ≤ wornP ls p j n i ∧ wornP ls p j n i ≤ 100 * i
  | 0, _ => by simp [wornP]
  | i + 1, h => by
    have := wornP_bd hv p j n i (by omega)
    have := (hv.ln i (by omega)).2.2
    simp only [wornP]
    split <;> omega
/-- the benches behind i loans -/
structure CPI (ks : List St) (ls : List Ln) (p : List Int) (i : Nat) (bs : List Bn) : Prop where
  len : bs.length = ks.length
  tl : ∀ j, j < ks.length → (bs.getD j bn0).T.length = (ks.getD j st0).items.toNat
  wl : ∀ j, j < ks.length → (bs.getD j bn0).W.length = (ks.getD j st0).items.toNat
  il : ∀ j, j < ks.length → (bs.getD j bn0).I.length ≤ i
  tv : ∀ j, j < ks.length → ∀ n, n < (ks.getD j st0).items.toNat → ((bs.getD j bn0).T.getD n (0, [])).2 = lentP ls p j n i
  wv : ∀ j, j < ks.length → ∀ n, n < (ks.getD j st0).items.toNat → (bs.getD j bn0).W.getD n 0 = wornP ls p j n i
def bn1 (e4 : Ent) (n : Nat) : Bn := ⟨e4, 0, [], List.replicate n 0, T0 n⟩
theorem CPI.init {ks : List St} {ls : List Ln} {p : List Int} {bs : List Bn} (h : bs.length = ks.length) (hb : ∀ j, j < ks.length → ∃ e4, bs.getD j bn0 = bn1 e4 (ks.getD j st0).items.toNat) : CPI ks ls p 0 bs := by
  refine ⟨h, ?_, ?_, ?_, ?_, ?_⟩
  all_goals intro j hj; obtain ⟨e4, e⟩ := hb j hj; rw [e]; simp [bn1, T0]
  · intro n hn; simp [hn, lentP]
  · intro n hn; simp [hn, wornP]
def bnLend (b : Bn) (loan item uses : Int) : Bn := ⟨b.e4, b.vi + 1, b.I ++ [item], b.W.set item.toNat (b.W.getD item.toNat 0 + uses), lentT b.T item.toNat loan⟩
theorem getD_setN {α : Type} {l : List α} {c j : Nat} {b d : α} (hj : j < l.length) : (l.set c b).getD j d = if c = j then b else l.getD j d := by
  simp only [List.getD_eq_getElem?_getD, List.getElem?_set]
  by_cases hcj : c = j
  · rw [if_pos hcj, if_pos hcj, if_pos (by omega)]; rfl
  · rw [if_neg hcj, if_neg hcj]
theorem CPI.step {ks : List St} {ls : List Ln} {p : List Int} {i : Nat} {bs : List Bn} (h : CPI ks ls p i bs) (hj : 0 ≤ (ls.getD i ln0).kind ∧ (ls.getD i ln0).kind < ks.length) (hn : 0 ≤ p.getD i 0 ∧ p.getD i 0 < (ks.getD (ls.getD i ln0).kind.toNat st0).items) :
    CPI ks ls p (i + 1) (bs.set (ls.getD i ln0).kind.toNat (bnLend (bs.getD (ls.getD i ln0).kind.toNat bn0) i (p.getD i 0) (ls.getD i ln0).uses)) := by
  have hbl := h.len
  have hl := fun j n : Int => show lentP ls p j n (i + 1) = if (decide ((ls.getD i ln0).kind = j) && decide (p.getD i 0 = n)) = true then lentP ls p j n i ++ [(i : Int)] else lentP ls p j n i from rfl
  have hw := fun j n : Int => show wornP ls p j n (i + 1) = if (decide ((ls.getD i ln0).kind = j) && decide (p.getD i 0 = n)) = true then wornP ls p j n i + (ls.getD i ln0).uses else wornP ls p j n i from rfl
  generalize ls.getD i ln0 = x at *
  generalize p.getD i 0 = m at *
  obtain ⟨c, hc⟩ : ∃ c : Nat, x.kind = (c : Int) := ⟨x.kind.toNat, by omega⟩
  obtain ⟨d, hd⟩ : ∃ d : Nat, m = (d : Int) := ⟨m.toNat, by omega⟩
  rw [hc] at hj hn hl hw ⊢
  subst hd
  simp only [Int.toNat_natCast] at hn ⊢
  have hcl : c < ks.length := by omega
  have hs : ∀ (b : Bn) j, j < ks.length → (bs.set c b).getD j bn0 = if c = j then b else bs.getD j bn0 := fun b j hj' => getD_setN (by omega)
  refine ⟨by simpa using hbl, ?_, ?_, ?_, ?_, ?_⟩
  · intro j hj'
    rw [hs _ j hj']
    split
    · rename_i e; subst e
      simp only [bnLend, lentT, List.length_set]; exact h.tl c hj'
    · exact h.tl j hj'
  · intro j hj'
    rw [hs _ j hj']
    split
    · rename_i e; subst e
      simp only [bnLend, List.length_set]; exact h.wl c hj'
    · exact h.wl j hj'
  · intro j hj'
    rw [hs _ j hj']
    have := h.il j hj'
    split
    · rename_i e; subst e
      simp only [bnLend, List.length_append, List.length_singleton]; omega
    · omega
  · intro j hj' n hn'
    rw [hs _ j hj', hl]
    have htl := h.tl j hj'
    split
    · rename_i e; subst e
      simp only [bnLend, lentT, Int.toNat_natCast]
      rw [getD_setN (by omega)]
      by_cases e : d = n
      · subst e
        rw [if_pos rfl, if_pos (by simp), ← h.tv c hj' d hn']
      · rw [if_neg e, if_neg (by simp; omega), ← h.tv c hj' n hn']
    · rw [if_neg (by simp; omega)]; exact h.tv j hj' n hn'
  · intro j hj' n hn'
    rw [hs _ j hj', hw]
    have hwl := h.wl j hj'
    split
    · rename_i e; subst e
      simp only [bnLend, Int.toNat_natCast]
      rw [getD_setN (by omega)]
      by_cases e : d = n
      · subst e
        rw [if_pos rfl, if_pos (by simp), ← h.wv c hj' d hn']
      · rw [if_neg e, if_neg (by simp; omega), ← h.wv c hj' n hn']
    · rw [if_neg (by simp; omega)]; exact h.wv j hj' n hn'
end Go.Proofs.Try
set_option maxHeartbeats 8000000
namespace Go.Proofs.Try
open Go.Vg

theorem CPI.fit {ks : List St} {ls : List Ln} {p : List Int} {i : Nat} {bs : List Bn} (h : CPI ks ls p i bs) (hj : 0 ≤ (ls.getD i ln0).kind ∧ (ls.getD i ln0).kind < ks.length) (hn : 0 ≤ p.getD i 0 ∧ p.getD i 0 < (ks.getD (ls.getD i ln0).kind.toNat st0).items) :
    fitB ls (ks.getD (ls.getD i ln0).kind.toNat st0).life (bs.getD (ls.getD i ln0).kind.toNat bn0).W ((bs.getD (ls.getD i ln0).kind.toNat bn0).T.map (·.2)) i (p.getD i 0).toNat = !wrongB ks ls p i := by
  have htl := h.tl (ls.getD i ln0).kind.toNat (by omega)
  have hw := h.wv (ls.getD i ln0).kind.toNat (by omega) (p.getD i 0).toNat (by omega)
  have ht := h.tv (ls.getD i ln0).kind.toNat (by omega) (p.getD i 0).toNat (by omega)
  rw [Int.toNat_of_nonneg hj.1, Int.toNat_of_nonneg hn.1] at hw ht
  have hT : (((bs.getD (ls.getD i ln0).kind.toNat bn0).T.map (·.2)).getD (p.getD i 0).toNat []) = ((bs.getD (ls.getD i ln0).kind.toNat bn0).T.getD (p.getD i 0).toNat (0, [])).2 := by
    have : (p.getD i 0).toNat < (bs.getD (ls.getD i ln0).kind.toNat bn0).T.length := by omega
    simp only [List.getD_eq_getElem?_getD, List.getElem?_map]
    rw [List.getElem?_eq_getElem (by simpa [List.getD_eq_getElem?_getD] using this)]; rfl
  unfold fitB wrongB
  rw [hT, ht, hw, lentP_clash, wornP_sum]
  have e : decide (p.getD i 0 < 0) = false := by simp; simpa [List.getD_eq_getElem?_getD] using hn.1
  rw [e, Bool.false_or, Bool.not_or, Bool.and_comm]
  congr 1
  rw [← decide_not]
  exact decide_eq_decide.2 (by omega)
theorem set_getD {α : Type} (l : List α) (j : Nat) (d : α) : l.set j (l.getD j d) = l := by
  rcases Nat.lt_or_ge j l.length with h | h
  · simp [List.getD_eq_getElem?_getD, h]
  · exact List.set_eq_of_length_le h
theorem CheckPlan_pure (ks : List St) (ls : List Ln) (plan : List Int) (hk : ks.length ≤ 9223372036854775807) (hl : ls.length ≤ 9223372036854775807) (hp : plan.length ≤ 9223372036854775807) :
    Pure Try.prog 33 [storA ks ls, .ints plan] (.tup [.int (cpAns ks ls plan).1, .int (cpAns ks ls plan).2]) := by
  have hck := checked_pure ks ls plan hk hl hp
  unfold cpAns
  by_cases h0 : chk2E ks ls plan = 0
  · rw [if_pos h0]
    rw [h0] at hck
    have hv := chk2E_pv h0
    have hlen := hv.len
    have hl20 := hv.sv.l20
    have hk8 := hv.sv.k8
    (refine Spec.of_body Try.func33 rfl (by rw [Try.ntmps33]; simp) 0 (by simp) ?_; rw [Try.results33, Try.ntmps33]; simp only [entry, zipArgs, Nat.reduceAdd])
    repeat (first | apply Wp.seq | apply Wp.block | (apply Run.next; (simp only [push_cast, seval] <;> (try simp (disch := omega) only [wI, wU, wC]) <;> exact rfl); (focus ((try simp only [push_cast, seval]) <;> exact sT))) | ((first | apply Run.nil | apply Wp.skip); dsimp only [sQ, tQ, bQ]) | (apply Wp.run; (dsimp only [List.map] <;> exact rfl); exact rfl) | (apply Wp.exit; dsimp only [sQ, tQ, bQ]; simp only [reduceIte]))
    (apply Run.pureP; (simp only [push_cast, seval] <;> (try simp (disch := omega) only [wI, wU, wC]) <;> exact rfl); (exact (Enters.of Try.func59 rfl rfl)); (exact hck); (focus (simp only [push_cast, seval] <;> first | trivial | assumption | (refine ⟨?_, ?_⟩ <;> assumption) | (simp; done))); (try dsimp only [putA, optG]))
    repeat (first | apply Wp.seq | apply Wp.block | (apply Run.next; (simp only [push_cast, seval] <;> (try simp (disch := omega) only [wI, wU, wC]) <;> exact rfl); (focus ((try simp only [push_cast, seval]) <;> exact sT))) | ((first | apply Run.nil | apply Wp.skip); dsimp only [sQ, tQ, bQ]) | (apply Wp.run; (dsimp only [List.map] <;> exact rfl); exact rfl) | (apply Wp.exit; dsimp only [sQ, tQ, bQ]; simp only [reduceIte]) | (apply Run.gtrue; (simp only [push_cast, seval] <;> (try simp (disch := omega) only [wI, wU, wC]) <;> exact rfl); (simp only [push_cast, seval] <;> (try simp (disch := omega) only [wI, wU, wC]) <;> exact rfl)) | (apply Run.gfalse (.bool false); (simp only [push_cast, seval] <;> (try simp (disch := omega) only [wI, wU, wC]) <;> exact rfl); dsimp only [S.put, optG]) | (apply Wp.condT; (simp only [push_cast, seval] <;> (try simp (disch := omega) only [wI, wU, wC]) <;> exact rfl)) | (apply Wp.condF; (simp only [push_cast, seval] <;> (try simp (disch := omega) only [wI, wU, wC]) <;> exact rfl)))
    (refine Wp.vacs 1 ?_; (try simp only [List.replicate_succ, List.replicate_zero, List.cons_append, List.nil_append]))
    refine Wp.loop (fun (q : Nat × Nat × Kind × List Bn) => { t := [(1, .ints plan), (2, .optr 0 0 0 0), (4, .int 0), (5, .int 0), (7, .osl 1 0 0 ks.length), (24, .lst 2 (ks.map stA)), (25, .int ks.length), (26, .int q.1)], m := ⟨0, .row 2 [storA ks ls]⟩ :: ⟨0, .row 1 (bptr 3 q.2.2.2 ++ List.replicate (ks.length - q.1) (.val (.pointer none)))⟩ :: ⟨q.2.1, q.2.2.1⟩ :: bks ks ls 3 0 q.2.2.2, n := 71 }) (fun q => q.1 ≤ ks.length ∧ q.2.2.2.length = q.1 ∧ ∀ j, j < q.1 → ∃ e4, q.2.2.2.getD j bn0 = bn1 e4 (ks.getD j st0).items.toNat) (fun q => ks.length - q.1) (0, 0, .row 1 [], []) ?_ ?_ ?_
    · (refine Le.of ?_ ?_ rfl rfl <;> (try simp only [push_cast, seval]) <;> (try (with_reducible rfl)))
      simp [bptr, bks]
    · simp
    · rintro ⟨k, v, kd, bs⟩ ⟨hk1, hbl, hbs⟩
      simp only at hk1 hbl hbs
      have hrow : (bptr 3 bs ++ List.replicate (ks.length - k) (AV.val (.pointer none))).length = ks.length := by simp [bptr_len]; omega
      repeat (first | apply Wp.seq | apply Wp.block | (apply Run.calm; exact rfl; (simp only [push_cast, seval, hrow] <;> (try simp (disch := omega) only [wI, wU, wC]) <;> exact rfl); (focus ((try simp only [push_cast, seval, hrow]) <;> exact sT))) | ((first | apply Run.nil | apply Wp.skip); dsimp only [sQ, tQ, bQ]) | (apply Wp.run; (dsimp only [List.map] <;> exact rfl); exact rfl) | (apply Wp.exit; dsimp only [sQ, tQ, bQ]; simp only [reduceIte]))
      (apply Wp.cond; (simp only [push_cast, seval, hrow] <;> (try simp (disch := omega) only [wI, wU, wC]) <;> exact rfl))
      · intro hck'
        simp only [decide_eq_true_eq, Int.ofNat_lt] at hck'
        have hs := hv.sv.st k hck'
        have hnb := newBench_spec hv.sv (k : Int) (ks.getD k st0).items (by omega) (by omega)
        rw [Int.toNat_natCast] at hnb
        generalize hy : ks.getD k st0 = y at hs hnb
        repeat (first | apply Wp.seq | apply Wp.block | (apply Run.calm; exact rfl; (simp only [push_cast, seval, hrow, hy] <;> (try simp (disch := omega) only [wI, wU, wC]) <;> exact rfl); (focus ((try simp only [push_cast, seval, hrow, hy]) <;> exact sT))) | ((first | apply Run.nil | apply Wp.skip); dsimp only [sQ, tQ, bQ]) | (apply Wp.run; (dsimp only [List.map] <;> exact rfl); exact rfl) | (apply Wp.exit; dsimp only [sQ, tQ, bQ]; simp only [reduceIte]))
        (apply Run.alcAt 2; (simp only [push_cast, seval, hrow, hy] <;> (try simp (disch := omega) only [wI, wU, wC]) <;> exact rfl); (focus ((try simp only [push_cast, seval, hrow, hy]) <;> exact sT)); exact rfl; (try simp only [push_cast, seval, hrow, hy]))
        repeat (first | apply Wp.seq | apply Wp.block | (apply Run.calm; exact rfl; (simp only [push_cast, seval, hrow, hy] <;> (try simp (disch := omega) only [wI, wU, wC]) <;> exact rfl); (focus ((try simp only [push_cast, seval, hrow, hy]) <;> exact sT))) | ((first | apply Run.nil | apply Wp.skip); dsimp only [sQ, tQ, bQ]) | (apply Wp.run; (dsimp only [List.map] <;> exact rfl); exact rfl) | (apply Wp.exit; dsimp only [sQ, tQ, bQ]; simp only [reduceIte]))
        apply Run.fresh (he := Enters.of Try.func67 rfl rfl)
        focus (simp only [push_cast, seval, hrow, hy] <;> exact rfl)
        focus (simp only [push_cast, seval, hrow, hy] <;> (try simp (disch := omega) only [wI, wU, wC]) <;> exact rfl)
        exact hnb
        focus (focus (simp only [push_cast, seval, hrow, hy] <;> first | trivial | assumption | (refine ⟨?_, ?_⟩ <;> assumption) | (simp; done)))
        rintro x m' ⟨rfl, e4, rfl⟩
        have hsh := blk_shift (3 + bsz bs) (ks := ks) (ls := ls) (e4 := e4) (life := y.life) (L := loanP ls k ls.length) (vi := 0) (I := []) (W := List.replicate y.items.toNat 0) (T := T0 y.items.toNat)
        have hsn := bks_snoc ks ls (bn1 (shE (3 + bsz bs) e4) y.items.toNat) bs 3 0
        rw [Nat.zero_add, hbl, hy] at hsn
        have hps := bptr_snoc (bn1 (shE (3 + bsz bs) e4) y.items.toNat) bs 3
        simp only [bn1] at hsn
        simp only [List.length_cons, List.cons_append]
        rw [show (bks ks ls 3 0 bs).length + 1 + 1 + 1 = 3 + bsz bs by rw [bks_len]; omega]
        simp only [shE] at hsh hsn hps
        rw [hsh, hsn]
        generalize hb1 : bks ks ls 3 0 (bs ++ [_]) = mb
        dsimp only [AV.shift]
        dsimp only [S.put, optG]
        have hset : (bptr 3 bs ++ List.replicate (ks.length - k) (AV.val (.pointer none))).set k (.optr (3 + bsz bs + 3) 1 0 0) = bptr 3 (bs ++ [bn1 (shE (3 + bsz bs) e4) y.items.toNat]) ++ List.replicate (ks.length - (k + 1)) (AV.val (.pointer none)) := by
          simp only [shE]
          rw [hps, show ks.length - k = (ks.length - (k + 1)) + 1 by omega, List.replicate_succ, List.set_append_right _ _ (by rw [bptr_len]; omega), bptr_len, hbl, Nat.sub_self]
          simp
        repeat (first | apply Wp.seq | apply Wp.block | (apply Run.next; (simp only [push_cast, seval, hrow, hy, hset] <;> (try simp (disch := omega) only [wI, wU, wC]) <;> exact rfl); (focus ((try simp only [push_cast, seval, hrow, hy, hset]) <;> exact sT))) | ((first | apply Run.nil | apply Wp.skip); dsimp only [sQ, tQ, bQ]) | (apply Wp.run; (dsimp only [List.map] <;> exact rfl); exact rfl) | (apply Wp.exit; dsimp only [sQ, tQ, bQ]; simp only [reduceIte]))
        refine ⟨(k + 1, v + 1, .row 2 [stA y], bs ++ [bn1 (shE (3 + bsz bs) e4) y.items.toNat]), ?_, ⟨by simp only; omega, by simp [hbl], fun j hj => ?_⟩, by simp only; omega⟩
        · simp only
          (refine Le.of ?_ ?_ rfl rfl <;> (try simp only [push_cast, seval, hrow, hy, hset]) <;> (try (with_reducible rfl)))
          rw [← hb1]; rfl
        · simp only at hj ⊢
          rcases Nat.lt_or_ge j k with h | h
          · obtain ⟨e5, h5⟩ := hbs j h
            refine ⟨e5, ?_⟩
            rw [← h5]
            simp only [List.getD_eq_getElem?_getD]
            rw [List.getElem?_append_left (by omega)]
          · obtain rfl : j = k := by omega
            refine ⟨shE (3 + bsz bs) e4, ?_⟩
            rw [hy, ← hbl]
            simp
      · intro hck'
        simp only [decide_eq_false_iff_not, Int.ofNat_lt] at hck'
        obtain rfl : k = ks.length := by omega
        have hci : CPI ks ls plan 0 bs := CPI.init hbl hbs
        have hpl : (bptr 3 bs).length = ks.length := by rw [bptr_len, hbl]
        rw [Nat.sub_self, List.replicate_zero, List.append_nil]
        repeat (first | apply Wp.seq | apply Wp.block | (apply Run.next; (simp only [push_cast, seval, hpl] <;> (try simp (disch := omega) only [wI, wU, wC]) <;> exact rfl); (focus ((try simp only [push_cast, seval, hpl]) <;> exact sT))) | ((first | apply Run.nil | apply Wp.skip); dsimp only [sQ, tQ, bQ]) | (apply Wp.run; (dsimp only [List.map] <;> exact rfl); exact rfl) | (apply Wp.exit; dsimp only [sQ, tQ, bQ]; simp only [reduceIte]))
        refine Wp.loop (fun (q : Nat × List Bn) => { t := [(1, .ints plan), (2, .optr 0 0 0 0), (7, .osl 1 0 0 ks.length), (40, .ints plan), (41, .int plan.length), (42, .int q.1)], m := ⟨0, .row 2 [storA ks ls]⟩ :: ⟨0, .row 1 (bptr 3 q.2)⟩ :: ⟨v, kd⟩ :: bks ks ls 3 0 q.2, n := 71 }) (fun q => q.1 ≤ plan.length ∧ CPI ks ls plan q.1 q.2 ∧ cpFrom ks ls plan plan.length plan.length = cpFrom ks ls plan plan.length (plan.length - q.1)) (fun q => plan.length - q.1) (0, bs) ?_ ?_ ?_
        · (refine Le.of ?_ ?_ rfl rfl <;> (try simp only [push_cast, seval, hpl]) <;> (try (with_reducible rfl)))
        · exact ⟨by simp, hci, by simp⟩
        · rintro ⟨i, cs⟩ ⟨hi1, hi2, hi3⟩
          simp only at hi1 hi2 hi3
          have hcl : (bptr 3 cs).length = ks.length := by rw [bptr_len, hi2.len]
          repeat (first | apply Wp.seq | apply Wp.block | (apply Run.next; (simp only [push_cast, seval, hcl] <;> (try simp (disch := omega) only [wI, wU, wC]) <;> exact rfl); (focus ((try simp only [push_cast, seval, hcl]) <;> exact sT))) | ((first | apply Run.nil | apply Wp.skip); dsimp only [sQ, tQ, bQ]) | (apply Wp.run; (dsimp only [List.map] <;> exact rfl); exact rfl) | (apply Wp.exit; dsimp only [sQ, tQ, bQ]; simp only [reduceIte]))
          (apply Wp.cond; (simp only [push_cast, seval, hcl] <;> (try simp (disch := omega) only [wI, wU, wC]) <;> exact rfl))
          · intro hcc
            simp only [decide_eq_true_eq, Int.ofNat_lt] at hcc
            have hpi := hv.pl i (by omega)
            have hli := hv.sv.ln i (by omega)
            have hst := hv.sv.st (ls.getD i ln0).kind.toNat (by omega)
            have e1 : plan.length - i = (plan.length - (i + 1)) + 1 := by omega
            rw [e1, cpFrom, show plan.length - (plan.length - (i + 1) + 1) = i by omega] at hi3
            obtain ⟨A, G, M, hM, hptr, hsp⟩ := bks_split ks ls cs 3 0 (ls.getD i ln0).kind.toNat (by rw [hi2.len]; omega)
            have hself := (hsp _ rfl).1
            rw [set_getD, Nat.zero_add] at hself
            simp only [Nat.zero_add] at hsp
            have hfit := hi2.fit hli.1
            have hstep := hi2.step hli.1
            have htl := hi2.tl (ls.getD i ln0).kind.toNat (by omega)
            have hwl := hi2.wl (ls.getD i ln0).kind.toNat (by omega)
            have hil := hi2.il (ls.getD i ln0).kind.toNat (by omega)
            have htv := hi2.tv (ls.getD i ln0).kind.toNat (by omega) (plan.getD i 0).toNat
            have hwv := hi2.wv (ls.getD i ln0).kind.toNat (by omega) (plan.getD i 0).toNat
            have hneg : plan.getD i 0 < 0 → wrongB ks ls plan i = true := fun h => by unfold wrongB; rw [decide_eq_true h]; rfl
            generalize hwb : wrongB ks ls plan i = wb at hi3 hfit hneg
            generalize hb : cs.getD (ls.getD i ln0).kind.toNat bn0 = b at hself hfit hstep htl hwl hil htv hwv hsp
            rw [hself]
            generalize hx : ls.getD i ln0 = x at *
            generalize hn : plan.getD i 0 = n at *
            by_cases hn0 : n < 0
            · have hd : decide (n < 0) = true := decide_eq_true hn0
              rw [hneg hn0, if_pos rfl] at hi3
              repeat (first | apply Wp.seq | apply Wp.block | (apply Run.next; (simp only [push_cast, seval, hcl, hx, hn, hptr, hd] <;> (try simp (disch := omega) only [wI, wU, wC]) <;> exact rfl); (focus ((try simp only [push_cast, seval, hcl, hx, hn, hptr, hd]) <;> exact sT))) | ((first | apply Run.nil | apply Wp.skip); dsimp only [sQ, tQ, bQ]) | (apply Wp.run; (dsimp only [List.map] <;> exact rfl); exact rfl) | (apply Wp.exit; dsimp only [sQ, tQ, bQ]; simp only [reduceIte]) | (apply Run.gtrue; (simp only [push_cast, seval, hcl, hx, hn, hptr, hd] <;> (try simp (disch := omega) only [wI, wU, wC]) <;> exact rfl); (simp only [push_cast, seval, hcl, hx, hn, hptr, hd] <;> (try simp (disch := omega) only [wI, wU, wC]) <;> exact rfl)) | (apply Run.gfalse (.bool false); (simp only [push_cast, seval, hcl, hx, hn, hptr, hd] <;> (try simp (disch := omega) only [wI, wU, wC]) <;> exact rfl); dsimp only [S.put, optG]) | (apply Wp.condT; (simp only [push_cast, seval, hcl, hx, hn, hptr, hd] <;> (try simp (disch := omega) only [wI, wU, wC]) <;> exact rfl)) | (apply Wp.condF; (simp only [push_cast, seval, hcl, hx, hn, hptr, hd] <;> (try simp (disch := omega) only [wI, wU, wC]) <;> exact rfl)))
              (apply Wp.ret; (try dsimp only [sQ, tQ, bQ]); apply leave0; exact rfl; (simp only [push_cast, seval, hcl, hx, hn, hptr, hd] <;> (try simp (disch := omega) only [wI, wU, wC]) <;> exact rfl); all_goals (try simp only [push_cast, seval, hcl, hx, hn, hptr, hd]); (try rfl))
              rw [hi3]
            · have hd : decide (n < 0) = false := decide_eq_false hn0
              have hn1 : 0 ≤ n ∧ n < (ks.getD x.kind.toNat st0).items := by omega
              have hfit := hfit hn1
              have hstep := hstep hn1
              have htv := htv (by omega)
              have hwv := hwv (by omega)
              have hF : (⟨0, .row 2 [storA ks ls]⟩ :: ⟨0, .row 1 (bptr 3 cs)⟩ :: ⟨v, kd⟩ :: A : Mem).length = M := by rw [hM]; simp; omega
              have hwbd := wornP_bd hv.sv plan (x.kind.toNat : Int) (n.toNat : Int) i (by omega)
              have hlbd := lentP_len ls plan (x.kind.toNat : Int) (n.toNat : Int) i
              have hlme := lentP_mem ls plan (x.kind.toNat : Int) (n.toNat : Int) i
              rw [← hwv] at hwbd
              rw [← htv] at hlbd hlme
              have hTm : (b.T.map (·.2)).getD n.toNat [] = (b.T.getD n.toNat (0, [])).2 := by
                have : n.toNat < b.T.length := by omega
                simp [List.getD_eq_getElem?_getD, this]
              have hft := fits_pure (ks := ks) (ls := ls) (life := (ks.getD x.kind.toNat st0).life) (L := loanP ls (x.kind.toNat : Nat) ls.length) (I := b.I) (W := b.W) (T := b.T.map (·.2)) (i : Int) n (by omega) (by rw [List.length_map]; omega) (by rw [List.length_map]; omega) hl20 (by rw [List.length_map]; omega)
                (by rw [Int.toNat_natCast, hx]; omega) (by omega) (by rw [hTm]; intro z hz; have := hlme z hz; omega) (by rw [hTm]; omega)
              rw [Int.toNat_natCast, hfit] at hft
              have hvw := blk_vw (G := G) hF (ks := ks) (ls := ls) (e0 := ⟨0, .row 2 [storA ks ls]⟩) (e4 := b.e4) (life := (ks.getD x.kind.toNat st0).life) (L := loanP ls (x.kind.toNat : Nat) ls.length) (vi := b.vi) (I := b.I) (W := b.W) (T := b.T)
              repeat (first | apply Wp.seq | apply Wp.block | (apply Run.next; (simp only [push_cast, seval, hcl, hx, hn, hptr, hd] <;> (try simp (disch := omega) only [wI, wU, wC]) <;> exact rfl); (focus ((try simp only [push_cast, seval, hcl, hx, hn, hptr, hd]) <;> exact sT))) | ((first | apply Run.nil | apply Wp.skip); dsimp only [sQ, tQ, bQ]) | (apply Wp.run; (dsimp only [List.map] <;> exact rfl); exact rfl) | (apply Wp.exit; dsimp only [sQ, tQ, bQ]; simp only [reduceIte]) | (apply Run.gtrue; (simp only [push_cast, seval, hcl, hx, hn, hptr, hd] <;> (try simp (disch := omega) only [wI, wU, wC]) <;> exact rfl); (simp only [push_cast, seval, hcl, hx, hn, hptr, hd] <;> (try simp (disch := omega) only [wI, wU, wC]) <;> exact rfl)) | (apply Run.gfalse (.bool false); (simp only [push_cast, seval, hcl, hx, hn, hptr, hd] <;> (try simp (disch := omega) only [wI, wU, wC]) <;> exact rfl); dsimp only [S.put, optG]) | (apply Wp.condT; (simp only [push_cast, seval, hcl, hx, hn, hptr, hd] <;> (try simp (disch := omega) only [wI, wU, wC]) <;> exact rfl)) | (apply Wp.condF; (simp only [push_cast, seval, hcl, hx, hn, hptr, hd] <;> (try simp (disch := omega) only [wI, wU, wC]) <;> exact rfl)))
              (apply Run.pureW; (simp only [push_cast, seval, hcl, hx, hn, hptr, hd] <;> (try simp (disch := omega) only [wI, wU, wC]) <;> exact rfl); (exact (Enters.of Try.func68 rfl rfl)); (exact hft); (exact VwL.cons hvw (VwL.cons (Vw.self trivial) (VwL.cons (Vw.self trivial) VwL.nil))); (simp only [push_cast, seval, hcl, hx, hn, hptr, hd] <;> first | trivial | assumption | (refine ⟨?_, ?_⟩ <;> assumption) | (simp; done)); (try dsimp only [putA, optG]))
              repeat (first | apply Wp.seq | apply Wp.block | (apply Run.next; (simp only [push_cast, seval, hcl, hx, hn, hptr, hd] <;> (try simp (disch := omega) only [wI, wU, wC]) <;> exact rfl); (focus ((try simp only [push_cast, seval, hcl, hx, hn, hptr, hd]) <;> exact sT))) | ((first | apply Run.nil | apply Wp.skip); dsimp only [sQ, tQ, bQ]) | (apply Wp.run; (dsimp only [List.map] <;> exact rfl); exact rfl) | (apply Wp.exit; dsimp only [sQ, tQ, bQ]; simp only [reduceIte]) | (apply Run.gtrue; (simp only [push_cast, seval, hcl, hx, hn, hptr, hd] <;> (try simp (disch := omega) only [wI, wU, wC]) <;> exact rfl); (simp only [push_cast, seval, hcl, hx, hn, hptr, hd] <;> (try simp (disch := omega) only [wI, wU, wC]) <;> exact rfl)) | (apply Run.gfalse (.bool false); (simp only [push_cast, seval, hcl, hx, hn, hptr, hd] <;> (try simp (disch := omega) only [wI, wU, wC]) <;> exact rfl); dsimp only [S.put, optG]) | (apply Wp.condT; (simp only [push_cast, seval, hcl, hx, hn, hptr, hd] <;> (try simp (disch := omega) only [wI, wU, wC]) <;> exact rfl)) | (apply Wp.condF; (simp only [push_cast, seval, hcl, hx, hn, hptr, hd] <;> (try simp (disch := omega) only [wI, wU, wC]) <;> exact rfl)))
              (apply Wp.cond; (simp only [push_cast, seval, hcl, hx, hn, hptr, hd] <;> (try simp (disch := omega) only [wI, wU, wC]) <;> exact rfl))
              · intro h2
                have h3 : wb = true := by cases wb <;> simp_all
                rw [h3, if_pos rfl] at hi3
                repeat (first | apply Wp.seq | apply Wp.block | (apply Run.next; (simp only [push_cast, seval, hcl, hx, hn, hptr, hd] <;> (try simp (disch := omega) only [wI, wU, wC]) <;> exact rfl); (focus ((try simp only [push_cast, seval, hcl, hx, hn, hptr, hd]) <;> exact sT))) | ((first | apply Run.nil | apply Wp.skip); dsimp only [sQ, tQ, bQ]) | (apply Wp.run; (dsimp only [List.map] <;> exact rfl); exact rfl) | (apply Wp.exit; dsimp only [sQ, tQ, bQ]; simp only [reduceIte]) | (apply Run.gtrue; (simp only [push_cast, seval, hcl, hx, hn, hptr, hd] <;> (try simp (disch := omega) only [wI, wU, wC]) <;> exact rfl); (simp only [push_cast, seval, hcl, hx, hn, hptr, hd] <;> (try simp (disch := omega) only [wI, wU, wC]) <;> exact rfl)) | (apply Run.gfalse (.bool false); (simp only [push_cast, seval, hcl, hx, hn, hptr, hd] <;> (try simp (disch := omega) only [wI, wU, wC]) <;> exact rfl); dsimp only [S.put, optG]) | (apply Wp.condT; (simp only [push_cast, seval, hcl, hx, hn, hptr, hd] <;> (try simp (disch := omega) only [wI, wU, wC]) <;> exact rfl)) | (apply Wp.condF; (simp only [push_cast, seval, hcl, hx, hn, hptr, hd] <;> (try simp (disch := omega) only [wI, wU, wC]) <;> exact rfl)))
                (apply Wp.ret; (try dsimp only [sQ, tQ, bQ]); apply leave0; exact rfl; (simp only [push_cast, seval, hcl, hx, hn, hptr, hd] <;> (try simp (disch := omega) only [wI, wU, wC]) <;> exact rfl); all_goals (try simp only [push_cast, seval, hcl, hx, hn, hptr, hd]); (try rfl))
                rw [hi3]
              · intro h2
                have h3 : wb = false := by cases wb <;> simp_all
                rw [h3, if_neg (by simp)] at hi3
                repeat (first | apply Wp.seq | apply Wp.block | (apply Run.next; (simp only [push_cast, seval, hcl, hx, hn, hptr, hd] <;> (try simp (disch := omega) only [wI, wU, wC]) <;> exact rfl); (focus ((try simp only [push_cast, seval, hcl, hx, hn, hptr, hd]) <;> exact sT))) | ((first | apply Run.nil | apply Wp.skip); dsimp only [sQ, tQ, bQ]) | (apply Wp.run; (dsimp only [List.map] <;> exact rfl); exact rfl) | (apply Wp.exit; dsimp only [sQ, tQ, bQ]; simp only [reduceIte]) | (apply Run.gtrue; (simp only [push_cast, seval, hcl, hx, hn, hptr, hd] <;> (try simp (disch := omega) only [wI, wU, wC]) <;> exact rfl); (simp only [push_cast, seval, hcl, hx, hn, hptr, hd] <;> (try simp (disch := omega) only [wI, wU, wC]) <;> exact rfl)) | (apply Run.gfalse (.bool false); (simp only [push_cast, seval, hcl, hx, hn, hptr, hd] <;> (try simp (disch := omega) only [wI, wU, wC]) <;> exact rfl); dsimp only [S.put, optG]) | (apply Wp.condT; (simp only [push_cast, seval, hcl, hx, hn, hptr, hd] <;> (try simp (disch := omega) only [wI, wU, wC]) <;> exact rfl)) | (apply Wp.condF; (simp only [push_cast, seval, hcl, hx, hn, hptr, hd] <;> (try simp (disch := omega) only [wI, wU, wC]) <;> exact rfl)))
                have hlend := lend_spec (G := G) hF (ks := ks) (ls := ls) (e0 := ⟨0, .row 2 [storA ks ls]⟩) (e4 := b.e4) (life := (ks.getD x.kind.toNat st0).life) (L := loanP ls (x.kind.toNat : Nat) ls.length) (vi := b.vi) (I := b.I) (W := b.W) (T := b.T) (i : Int) n (by omega) (by omega) (by omega) hl20 (by omega) (by omega) (by rw [Int.toNat_natCast, hx]; omega) (by omega) (by omega)
                rw [Int.toNat_natCast, hx] at hlend
                apply Run.spec (he := Enters.of Try.func69 rfl rfl) (hc := hlend)
                focus exact rfl
                focus (simp only [push_cast, seval, hcl, hx, hn, hptr, hd] <;> exact rfl)
                focus (simp only [push_cast, seval, hcl, hx, hn, hptr, hd] <;> (try simp (disch := omega) only [wI, wU, wC]) <;> exact rfl)
                rintro x' m' rfl
                dsimp only [S.put, optG]
                repeat (first | apply Wp.seq | apply Wp.block | (apply Run.next; (simp only [push_cast, seval, hcl, hx, hn, hptr, hd] <;> (try simp (disch := omega) only [wI, wU, wC]) <;> exact rfl); (focus ((try simp only [push_cast, seval, hcl, hx, hn, hptr, hd]) <;> exact sT))) | ((first | apply Run.nil | apply Wp.skip); dsimp only [sQ, tQ, bQ]) | (apply Wp.run; (dsimp only [List.map] <;> exact rfl); exact rfl) | (apply Wp.exit; dsimp only [sQ, tQ, bQ]; simp only [reduceIte]))
                obtain ⟨q1, q2⟩ := hsp (bnLend b i n x.uses) (by simp [bnLend, lentT])
                refine ⟨(i + 1, cs.set x.kind.toNat (bnLend b i n x.uses)), ?_, ⟨by simp only; omega, hstep, hi3⟩, by simp only; omega⟩
                simp only
                rw [q1, q2]
                (refine Le.of ?_ ?_ rfl rfl <;> (try simp only [push_cast, seval, hcl, hx, hn, hptr, hd]) <;> (try (with_reducible rfl)))
                all_goals rfl
          · intro hcc
            simp only [decide_eq_false_iff_not, Int.ofNat_lt] at hcc
            obtain rfl : i = plan.length := by omega
            repeat (first | apply Wp.seq | apply Wp.block | (apply Run.next; (simp only [push_cast, seval, hcl] <;> (try simp (disch := omega) only [wI, wU, wC]) <;> exact rfl); (focus ((try simp only [push_cast, seval, hcl]) <;> exact sT))) | ((first | apply Run.nil | apply Wp.skip); dsimp only [sQ, tQ, bQ]) | (apply Wp.run; (dsimp only [List.map] <;> exact rfl); exact rfl) | (apply Wp.exit; dsimp only [sQ, tQ, bQ]; simp only [reduceIte]))
            (apply Wp.ret; (try dsimp only [sQ, tQ, bQ]); apply leave0; exact rfl; (simp only [push_cast, seval, hcl] <;> (try simp (disch := omega) only [wI, wU, wC]) <;> exact rfl); all_goals (try simp only [push_cast, seval, hcl]); (try rfl))
            rw [hi3]; simp [cpFrom]
  · rw [if_neg h0]
    generalize chk2E ks ls plan = e at hck h0
    (refine Spec.of_body Try.func33 rfl (by rw [Try.ntmps33]; simp) 0 (by simp) ?_; rw [Try.results33, Try.ntmps33]; simp only [entry, zipArgs, Nat.reduceAdd])
    repeat (first | apply Wp.seq | apply Wp.block | (apply Run.next; (simp only [push_cast, seval] <;> (try simp (disch := omega) only [wI, wU, wC]) <;> exact rfl); (focus ((try simp only [push_cast, seval]) <;> exact sT))) | ((first | apply Run.nil | apply Wp.skip); dsimp only [sQ, tQ, bQ]) | (apply Wp.run; (dsimp only [List.map] <;> exact rfl); exact rfl) | (apply Wp.exit; dsimp only [sQ, tQ, bQ]; simp only [reduceIte]))
    (apply Run.pureP; (simp only [push_cast, seval] <;> (try simp (disch := omega) only [wI, wU, wC]) <;> exact rfl); (exact (Enters.of Try.func59 rfl rfl)); (exact hck); (focus (simp only [push_cast, seval] <;> first | trivial | assumption | (refine ⟨?_, ?_⟩ <;> assumption) | (simp; done))); (try dsimp only [putA, optG]))
    repeat (first | apply Wp.seq | apply Wp.block | (apply Run.next; (simp only [push_cast, seval] <;> (try simp (disch := omega) only [wI, wU, wC]) <;> exact rfl); (focus ((try simp only [push_cast, seval]) <;> exact sT))) | ((first | apply Run.nil | apply Wp.skip); dsimp only [sQ, tQ, bQ]) | (apply Wp.run; (dsimp only [List.map] <;> exact rfl); exact rfl) | (apply Wp.exit; dsimp only [sQ, tQ, bQ]; simp only [reduceIte]))
    (apply Wp.cond; (simp only [push_cast, seval] <;> (try simp (disch := omega) only [wI, wU, wC]) <;> exact rfl))
    · intro h2
      repeat (first | apply Wp.seq | apply Wp.block | (apply Run.next; (simp only [push_cast, seval] <;> (try simp (disch := omega) only [wI, wU, wC]) <;> exact rfl); (focus ((try simp only [push_cast, seval]) <;> exact sT))) | ((first | apply Run.nil | apply Wp.skip); dsimp only [sQ, tQ, bQ]) | (apply Wp.run; (dsimp only [List.map] <;> exact rfl); exact rfl) | (apply Wp.exit; dsimp only [sQ, tQ, bQ]; simp only [reduceIte]))
      (apply Wp.ret; (try dsimp only [sQ, tQ, bQ]); apply leave0; exact rfl; (simp only [push_cast, seval] <;> (try simp (disch := omega) only [wI, wU, wC]) <;> exact rfl); all_goals (try simp only [push_cast, seval]); (try rfl))
    · intro h2; simp at h2; omega
end Go.Proofs.Try
set_option maxHeartbeats 8000000
namespace Go.Proofs.Try
open Go.Vg

/-! the loans that are disturbed -/
end Go.Proofs.Try
set_option maxHeartbeats 8000000
namespace Go.Proofs.Try
open Go.Vg

/-! a right plan stays right if a loan ends later, as long as no loan is disturbed -/
theorem cpFrom_zero (ks : List St) (ls : List Ln) (p : List Int) (n : Nat) : ∀ k, k ≤ n → ((cpFrom ks ls p n k).2 = 0 ↔ ∀ j, n - k ≤ j → j < n → wrongB ks ls p j = false)
  | 0, _ => by
    simp only [cpFrom, Nat.sub_zero, true_iff]
    intro j h1 h2; omega
  | k + 1, hk => by
    simp only [cpFrom]
    split
    · rename_i h
      constructor
      · intro h0; simp at h0
      · intro h0; rw [h0 (n - (k + 1)) (Nat.le_refl _) (by omega)] at h; cases h
    · rename_i h
      rw [cpFrom_zero ks ls p n k (by omega)]
      constructor
      · intro h0 j h1 h2
        rcases Nat.lt_or_ge j (n - k) with h3 | h3
        · obtain rfl : j = n - (k + 1) := by omega
          simpa using h
        · exact h0 j h3 h2
      · intro h0 j h1 h2
        exact h0 j (by omega) h2
theorem cpAns_zero {ks : List St} {ls : List Ln} {p : List Int} : (cpAns ks ls p).2 = 0 ↔ chk2E ks ls p = 0 ∧ ∀ j, j < p.length → wrongB ks ls p j = false := by
  unfold cpAns
  split
  · rename_i h
    rw [cpFrom_zero _ _ _ _ _ (Nat.le_refl _)]
    simp [h]
  · rename_i h
    simp [h]
end Go.Proofs.Try
