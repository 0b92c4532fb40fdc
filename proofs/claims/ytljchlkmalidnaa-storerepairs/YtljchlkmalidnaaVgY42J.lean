/- A part of the proof of StoreRepairs: contracts of functions, with plain laws that they need. -/
import Derived.Test.YtljchlkmalidnaaVgY40J
set_option linter.all false
set_option maxHeartbeats 8000000
namespace Go.Proofs.Try
open Go.Vg

/-! Repair -/
theorem rM_4 (a0 a1 a2 a3 : Ent) (c : Int) (R : Mem) : (rM a0 a1 a2 a3 c R)[4]? = some ⟨0, .row 1 [.int c]⟩ := rfl
theorem rM_s4 (a0 a1 a2 a3 : Ent) (c c' : Int) (R : Mem) : (rM a0 a1 a2 a3 c R).set 4 ⟨0, .row 1 [.int c']⟩ = rM a0 a1 a2 a3 c' R := rfl
def rkB (ks : List St) (kind lost : Int) : Bool := wi kind 0 ((ks.length : Int) - 1) && wi lost 0 ((ks.getD kind.toNat st0).items - 1)
def rpAll (ks : List St) (ls : List Ln) (pl : List Int) (kind lost : Int) : Bool := (List.range ks.length).all fun k => (rpK ks ls pl kind lost k).isSome
def rpG (ks : List St) (ls : List Ln) (pl : List Int) (kind lost : Int) : List Int := glue ls (rpF ks ls pl kind lost) ls.length
def rpE (ks : List St) (ls : List Ln) (pl : List Int) (kind lost : Int) : Int := if chk2E ks ls pl = 0 then (if rkB ks kind lost = true then (if rpAll ks ls pl kind lost = true then 0 else 101) else 1) else chk2E ks ls pl
def rpA (ks : List St) (ls : List Ln) (pl : List Int) (kind lost : Int) : AV := if chk2E ks ls pl = 0 ∧ rkB ks kind lost = true ∧ rpAll ks ls pl kind lost = true then .ints (rpG ks ls pl kind lost) else .emp
def rpN (ks : List St) (ls : List Ln) (pl : List Int) (kind lost : Int) : Int := if chk2E ks ls pl = 0 ∧ rkB ks kind lost = true ∧ rpAll ks ls pl kind lost = true then chK ks ls pl kind lost ks.length else 0
theorem Repair_pure (ks : List St) (ls : List Ln) (pl : List Int) (kind lost : Int) (hk : ks.length ≤ 9223372036854775807) (hl : ls.length ≤ 9223372036854775807) (hp : pl.length ≤ 9223372036854775807) : Pure Try.prog 41 [storA ks ls, .ints pl, .int kind, .int lost] (.tup [rpA ks ls pl kind lost, .int (rpN ks ls pl kind lost), .int (rpE ks ls pl kind lost)]) := by
  have hck := checked_pure ks ls pl hk hl hp
  unfold rpA rpN rpE
  by_cases h1 : chk2E ks ls pl = 0
  · obtain ⟨hv, hpl, _⟩ := chk2E_zero h1
    have hk8 := hv.k8
    have hkd := kinded_pure ks ls kind hk8
    rw [h1] at hck ⊢
    by_cases h2 : rkB ks kind lost = true
    · have h3 := h2
      unfold rkB at h3
      rw [Bool.and_eq_true] at h3
      have hkk := wi_iff.1 h3.1
      have hit := item_pure hv kind lost (by omega)
      rw [h3.1] at hkd
      rw [h3.2] at hit
      rw [if_pos rfl, if_pos h2]
      have hea := eachR_spec hv hpl kind lost ⟨0, .row 2 [storA ks ls]⟩ ⟨1, .row 1 []⟩ ⟨1, .row 1 []⟩ ⟨1, .row 1 []⟩
      have hno : ∀ k, k < ks.length → rpK ks ls pl kind lost k = none → rpAll ks ls pl kind lost = false := fun k hk h => range_no hk (by rw [h]; rfl)
      have hall : (∀ k, k < ks.length → (rpK ks ls pl kind lost k).isSome = true) → rpAll ks ls pl kind lost = true := fun h => range_all h
      generalize rpAll ks ls pl kind lost = ra at hno hall
      (refine Spec.of_body Try.func41 rfl (by rw [Try.ntmps41]; simp) 0 (by simp) ?_; rw [Try.results41, Try.ntmps41]; simp only [entry, zipArgs, Nat.reduceAdd])
      repeat (first | apply Wp.seq | apply Wp.block | (apply Run.next; (simp only [push_cast, seval] <;> (try simp (disch := omega) only [wI, wU, wC]) <;> exact rfl); (focus ((try simp only [push_cast, seval]) <;> exact sT))) | ((first | apply Run.nil | apply Wp.skip); dsimp only [sQ, tQ, bQ]) | (apply Wp.run; (dsimp only [List.map] <;> exact rfl); exact rfl) | (apply Wp.exit; dsimp only [sQ, tQ, bQ]; simp only [reduceIte]))
      (apply Run.pureP; (simp only [push_cast, seval] <;> (try simp (disch := omega) only [wI, wU, wC]) <;> exact rfl); (exact (Enters.of Try.func59 rfl rfl)); (exact hck); (focus (simp only [push_cast, seval] <;> first | trivial | assumption | (refine ⟨?_, ?_⟩ <;> assumption) | (simp; done))); (try dsimp only [putA, optG]))
      repeat (first | apply Wp.seq | apply Wp.block | (apply Run.next; (simp only [push_cast, seval] <;> (try simp (disch := omega) only [wI, wU, wC]) <;> exact rfl); (focus ((try simp only [push_cast, seval]) <;> exact sT))) | ((first | apply Run.nil | apply Wp.skip); dsimp only [sQ, tQ, bQ]) | (apply Wp.run; (dsimp only [List.map] <;> exact rfl); exact rfl) | (apply Wp.exit; dsimp only [sQ, tQ, bQ]; simp only [reduceIte]) | (apply Run.gtrue; (simp only [push_cast, seval] <;> (try simp (disch := omega) only [wI, wU, wC]) <;> exact rfl); (simp only [push_cast, seval] <;> (try simp (disch := omega) only [wI, wU, wC]) <;> exact rfl)) | (apply Run.gfalse (.bool false); (simp only [push_cast, seval] <;> (try simp (disch := omega) only [wI, wU, wC]) <;> exact rfl); dsimp only [S.put, optG]) | (apply Wp.condT; (simp only [push_cast, seval] <;> (try simp (disch := omega) only [wI, wU, wC]) <;> exact rfl)) | (apply Wp.condF; (simp only [push_cast, seval] <;> (try simp (disch := omega) only [wI, wU, wC]) <;> exact rfl)))
      (apply Run.pureP; (simp only [push_cast, seval] <;> (try simp (disch := omega) only [wI, wU, wC]) <;> exact rfl); (exact (Enters.of Try.func60 rfl rfl)); (exact hkd); (focus (simp only [push_cast, seval] <;> first | trivial | assumption | (refine ⟨?_, ?_⟩ <;> assumption) | (simp; done))); (try dsimp only [putA, optG]))
      repeat (first | apply Wp.seq | apply Wp.block | (apply Run.next; (simp only [push_cast, seval] <;> (try simp (disch := omega) only [wI, wU, wC]) <;> exact rfl); (focus ((try simp only [push_cast, seval]) <;> exact sT))) | ((first | apply Run.nil | apply Wp.skip); dsimp only [sQ, tQ, bQ]) | (apply Wp.run; (dsimp only [List.map] <;> exact rfl); exact rfl) | (apply Wp.exit; dsimp only [sQ, tQ, bQ]; simp only [reduceIte]) | (apply Run.gtrue; (simp only [push_cast, seval] <;> (try simp (disch := omega) only [wI, wU, wC]) <;> exact rfl); (simp only [push_cast, seval] <;> (try simp (disch := omega) only [wI, wU, wC]) <;> exact rfl)) | (apply Run.gfalse (.bool false); (simp only [push_cast, seval] <;> (try simp (disch := omega) only [wI, wU, wC]) <;> exact rfl); dsimp only [S.put, optG]) | (apply Wp.condT; (simp only [push_cast, seval] <;> (try simp (disch := omega) only [wI, wU, wC]) <;> exact rfl)) | (apply Wp.condF; (simp only [push_cast, seval] <;> (try simp (disch := omega) only [wI, wU, wC]) <;> exact rfl)))
      (apply Run.pureP; (simp only [push_cast, seval] <;> (try simp (disch := omega) only [wI, wU, wC]) <;> exact rfl); (exact (Enters.of Try.func73 rfl rfl)); (exact hit); (focus (simp only [push_cast, seval] <;> first | trivial | assumption | (refine ⟨?_, ?_⟩ <;> assumption) | (simp; done))); (try dsimp only [putA, optG]))
      repeat (first | apply Wp.seq | apply Wp.block | (apply Run.calm; exact rfl; (simp only [push_cast, seval] <;> (try simp (disch := omega) only [wI, wU, wC]) <;> exact rfl); (focus ((try simp only [push_cast, seval]) <;> exact sT))) | ((first | apply Run.nil | apply Wp.skip); dsimp only [sQ, tQ, bQ]) | (apply Wp.run; (dsimp only [List.map] <;> exact rfl); exact rfl) | (apply Wp.exit; dsimp only [sQ, tQ, bQ]; simp only [reduceIte]))
      (apply Wp.condF; (simp only [push_cast, seval] <;> (try simp (disch := omega) only [wI, wU, wC]) <;> exact rfl))
      (apply Wp.skip; dsimp only [sQ, tQ, bQ])
      (apply Wp.freezeP 5; (simp only [push_cast, seval] <;> (try simp (disch := omega) only [wI, wU, wC]) <;> exact rfl); (simp only [push_cast, seval] <;> (try simp (disch := omega) only [wI, wU, wC]) <;> exact rfl); exact rfl; (focus (first | (simp [AV.cells]; done) | (simp only [push_cast, seval]; done))); simp only [AV.cells, List.set_cons_succ, List.set_cons_zero])
      (apply Wp.freezeP 6; (simp only [push_cast, seval] <;> (try simp (disch := omega) only [wI, wU, wC]) <;> exact rfl); (simp only [push_cast, seval] <;> (try simp (disch := omega) only [wI, wU, wC]) <;> exact rfl); exact rfl; (focus (first | (simp [AV.cells]; done) | (simp only [push_cast, seval]; done))); simp only [AV.cells, List.set_cons_succ, List.set_cons_zero])
      (apply Wp.freezeP 7; (simp only [push_cast, seval] <;> (try simp (disch := omega) only [wI, wU, wC]) <;> exact rfl); (simp only [push_cast, seval] <;> (try simp (disch := omega) only [wI, wU, wC]) <;> exact rfl); exact rfl; (focus (first | (simp [AV.cells]; done) | (simp only [push_cast, seval]; done))); simp only [AV.cells, List.set_cons_succ, List.set_cons_zero])
      repeat (first | apply Wp.seq | apply Wp.block | (apply Run.next; (simp only [push_cast, seval] <;> (try simp (disch := omega) only [wI, wU, wC]) <;> exact rfl); (focus ((try simp only [push_cast, seval]) <;> exact sT))) | ((first | apply Run.nil | apply Wp.skip); dsimp only [sQ, tQ, bQ]) | (apply Wp.run; (dsimp only [List.map] <;> exact rfl); exact rfl) | (apply Wp.exit; dsimp only [sQ, tQ, bQ]; simp only [reduceIte]))
      apply Run.spec (he := Enters.of Try.func55 rfl rfl) (hc := hea)
      focus exact rfl
      focus (simp only [push_cast, seval] <;> exact rfl)
      focus (simp only [push_cast, seval] <;> (try simp (disch := omega) only [wI, wU, wC]) <;> exact rfl)
      rintro x m' ⟨c, R, rfl, ⟨⟨k, hk1, hk2⟩, rfl⟩ | ⟨h5, rfl, ⟨h6, rfl⟩ | ⟨h6, A, rfl⟩⟩⟩
      · have := hno k hk1 hk2
        subst this
        dsimp only [S.put, optG]
        repeat (first | apply Wp.seq | apply Wp.block | (apply Run.next; (simp only [push_cast, seval, rM_4, rM_s4] <;> (try simp (disch := omega) only [wI, wU, wC]) <;> exact rfl); (focus ((try simp only [push_cast, seval, rM_4, rM_s4]) <;> exact sT))) | ((first | apply Run.nil | apply Wp.skip); dsimp only [sQ, tQ, bQ]) | (apply Wp.run; (dsimp only [List.map] <;> exact rfl); exact rfl) | (apply Wp.exit; dsimp only [sQ, tQ, bQ]; simp only [reduceIte]))
        refine Run.isNil (e := 3) (b := true) (by simp only [push_cast, seval, rM_4, rM_s4]) (by simp only [push_cast, seval, rM_4, rM_s4]; rfl) ?_
        dsimp only [putA]
        repeat (first | apply Wp.seq | apply Wp.block | (apply Run.next; (simp only [push_cast, seval, rM_4, rM_s4] <;> (try simp (disch := omega) only [wI, wU, wC]) <;> exact rfl); (focus ((try simp only [push_cast, seval, rM_4, rM_s4]) <;> exact sT))) | ((first | apply Run.nil | apply Wp.skip); dsimp only [sQ, tQ, bQ]) | (apply Wp.run; (dsimp only [List.map] <;> exact rfl); exact rfl) | (apply Wp.exit; dsimp only [sQ, tQ, bQ]; simp only [reduceIte]) | (apply Run.gtrue; (simp only [push_cast, seval, rM_4, rM_s4] <;> (try simp (disch := omega) only [wI, wU, wC]) <;> exact rfl); (simp only [push_cast, seval, rM_4, rM_s4] <;> (try simp (disch := omega) only [wI, wU, wC]) <;> exact rfl)) | (apply Run.gfalse (.bool false); (simp only [push_cast, seval, rM_4, rM_s4] <;> (try simp (disch := omega) only [wI, wU, wC]) <;> exact rfl); dsimp only [S.put, optG]) | (apply Wp.condT; (simp only [push_cast, seval, rM_4, rM_s4] <;> (try simp (disch := omega) only [wI, wU, wC]) <;> exact rfl)) | (apply Wp.condF; (simp only [push_cast, seval, rM_4, rM_s4] <;> (try simp (disch := omega) only [wI, wU, wC]) <;> exact rfl)))
        (apply Wp.ret; (try dsimp only [sQ, tQ, bQ]); apply leave0; exact rfl; (simp only [push_cast, seval, rM_4, rM_s4] <;> (try simp (disch := omega) only [wI, wU, wC]) <;> exact rfl); all_goals (try simp only [push_cast, seval, rM_4, rM_s4]); (try rfl))
        simp [h2]
      · have := hall h5
        subst this
        have hgl : (rpG ks ls pl kind lost).length = ls.length := glue_len _ _ _
        have hpos : 0 < ls.length := List.length_pos_iff.2 h6
        rw [show glue ls (rpF ks ls pl kind lost) ls.length = rpG ks ls pl kind lost from rfl]
        generalize rpG ks ls pl kind lost = gl at hgl
        obtain ⟨a, gl, rfl⟩ : ∃ a l, gl = a :: l := by
          cases gl with
          | nil => simp at hgl; omega
          | cons a l => exact ⟨a, l, rfl⟩
        dsimp only [S.put, optG]
        repeat (first | apply Wp.seq | apply Wp.block | (apply Run.next; (simp only [push_cast, seval, rM_4, rM_s4] <;> (try simp (disch := omega) only [wI, wU, wC]) <;> exact rfl); (focus ((try simp only [push_cast, seval, rM_4, rM_s4]) <;> exact sT))) | ((first | apply Run.nil | apply Wp.skip); dsimp only [sQ, tQ, bQ]) | (apply Wp.run; (dsimp only [List.map] <;> exact rfl); exact rfl) | (apply Wp.exit; dsimp only [sQ, tQ, bQ]; simp only [reduceIte]))
        refine Run.isNil (e := 3) (b := false) (by simp only [push_cast, seval, rM_4, rM_s4]) (by simp only [push_cast, seval, rM_4, rM_s4]; rfl) ?_
        dsimp only [putA]
        repeat (first | apply Wp.seq | apply Wp.block | (apply Run.next; (simp only [push_cast, seval, rM_4, rM_s4] <;> (try simp (disch := omega) only [wI, wU, wC]) <;> exact rfl); (focus ((try simp only [push_cast, seval, rM_4, rM_s4]) <;> exact sT))) | ((first | apply Run.nil | apply Wp.skip); dsimp only [sQ, tQ, bQ]) | (apply Wp.run; (dsimp only [List.map] <;> exact rfl); exact rfl) | (apply Wp.exit; dsimp only [sQ, tQ, bQ]; simp only [reduceIte]) | (apply Run.gtrue; (simp only [push_cast, seval, rM_4, rM_s4] <;> (try simp (disch := omega) only [wI, wU, wC]) <;> exact rfl); (simp only [push_cast, seval, rM_4, rM_s4] <;> (try simp (disch := omega) only [wI, wU, wC]) <;> exact rfl)) | (apply Run.gfalse (.bool false); (simp only [push_cast, seval, rM_4, rM_s4] <;> (try simp (disch := omega) only [wI, wU, wC]) <;> exact rfl); dsimp only [S.put, optG]) | (apply Wp.condT; (simp only [push_cast, seval, rM_4, rM_s4] <;> (try simp (disch := omega) only [wI, wU, wC]) <;> exact rfl)) | (apply Wp.condF; (simp only [push_cast, seval, rM_4, rM_s4] <;> (try simp (disch := omega) only [wI, wU, wC]) <;> exact rfl)))
        (apply Wp.runE 3 3 mixed; (dsimp only [List.map] <;> exact rfl); exact rfl; kernel_rfl; ((repeat (apply Abe.next; exact rfl; (simp only [push_cast, seval, rM_4, rM_s4] <;> (try simp (disch := omega) only [wI, wU, wC]) <;> exact rfl); (focus ((try simp only [push_cast, seval, rM_4, rM_s4]) <;> exact sT)))); (apply Abe.eff; exact rfl; (simp only [push_cast, seval, rM_4, rM_s4] <;> (try simp (disch := omega) only [wI, wU, wC]) <;> exact rfl); (focus ((try simp only [push_cast, seval, rM_4, rM_s4]) <;> exact sT)); (try dsimp only [putA])); (repeat (apply Abe.next; exact rfl; (simp only [push_cast, seval, rM_4, rM_s4] <;> (try simp (disch := omega) only [wI, wU, wC]) <;> exact rfl); (focus ((try simp only [push_cast, seval, rM_4, rM_s4]) <;> exact sT)))); exact Abe.nil))
        repeat (first | apply Wp.seq | apply Wp.block | (apply Run.next; (simp only [push_cast, seval, rM_4, rM_s4] <;> (try simp (disch := omega) only [wI, wU, wC]) <;> exact rfl); (focus ((try simp only [push_cast, seval, rM_4, rM_s4]) <;> exact sT))) | ((first | apply Run.nil | apply Wp.skip); dsimp only [sQ, tQ, bQ]) | (apply Wp.run; (dsimp only [List.map] <;> exact rfl); exact rfl) | (apply Wp.exit; dsimp only [sQ, tQ, bQ]; simp only [reduceIte]) | (apply Run.gtrue; (simp only [push_cast, seval, rM_4, rM_s4] <;> (try simp (disch := omega) only [wI, wU, wC]) <;> exact rfl); (simp only [push_cast, seval, rM_4, rM_s4] <;> (try simp (disch := omega) only [wI, wU, wC]) <;> exact rfl)) | (apply Run.gfalse (.bool false); (simp only [push_cast, seval, rM_4, rM_s4] <;> (try simp (disch := omega) only [wI, wU, wC]) <;> exact rfl); dsimp only [S.put, optG]) | (apply Wp.condT; (simp only [push_cast, seval, rM_4, rM_s4] <;> (try simp (disch := omega) only [wI, wU, wC]) <;> exact rfl)) | (apply Wp.condF; (simp only [push_cast, seval, rM_4, rM_s4] <;> (try simp (disch := omega) only [wI, wU, wC]) <;> exact rfl)))
        (apply Wp.ret; (try dsimp only [sQ, tQ, bQ]); apply leave0; exact rfl; (simp only [push_cast, seval, rM_4, rM_s4] <;> (try simp (disch := omega) only [wI, wU, wC]) <;> exact rfl); all_goals (try simp only [push_cast, seval, rM_4, rM_s4]); (try rfl))
        simp [h2]
      · have := hall h5
        subst this
        subst h6
        dsimp only [S.put, optG]
        repeat (first | apply Wp.seq | apply Wp.block | (apply Run.next; (simp only [push_cast, seval, rM_4, rM_s4] <;> (try simp (disch := omega) only [wI, wU, wC]) <;> exact rfl); (focus ((try simp only [push_cast, seval, rM_4, rM_s4]) <;> exact sT))) | ((first | apply Run.nil | apply Wp.skip); dsimp only [sQ, tQ, bQ]) | (apply Wp.run; (dsimp only [List.map] <;> exact rfl); exact rfl) | (apply Wp.exit; dsimp only [sQ, tQ, bQ]; simp only [reduceIte]))
        refine Run.isNil (e := 3) (b := false) (by simp only [push_cast, seval, rM_4, rM_s4]) (by simp only [push_cast, seval, rM_4, rM_s4]; rfl) ?_
        dsimp only [putA]
        repeat (first | apply Wp.seq | apply Wp.block | (apply Run.next; (simp only [push_cast, seval, rM_4, rM_s4] <;> (try simp (disch := omega) only [wI, wU, wC]) <;> exact rfl); (focus ((try simp only [push_cast, seval, rM_4, rM_s4]) <;> exact sT))) | ((first | apply Run.nil | apply Wp.skip); dsimp only [sQ, tQ, bQ]) | (apply Wp.run; (dsimp only [List.map] <;> exact rfl); exact rfl) | (apply Wp.exit; dsimp only [sQ, tQ, bQ]; simp only [reduceIte]) | (apply Run.gtrue; (simp only [push_cast, seval, rM_4, rM_s4] <;> (try simp (disch := omega) only [wI, wU, wC]) <;> exact rfl); (simp only [push_cast, seval, rM_4, rM_s4] <;> (try simp (disch := omega) only [wI, wU, wC]) <;> exact rfl)) | (apply Run.gfalse (.bool false); (simp only [push_cast, seval, rM_4, rM_s4] <;> (try simp (disch := omega) only [wI, wU, wC]) <;> exact rfl); dsimp only [S.put, optG]) | (apply Wp.condT; (simp only [push_cast, seval, rM_4, rM_s4] <;> (try simp (disch := omega) only [wI, wU, wC]) <;> exact rfl)) | (apply Wp.condF; (simp only [push_cast, seval, rM_4, rM_s4] <;> (try simp (disch := omega) only [wI, wU, wC]) <;> exact rfl)))
        (apply Wp.runE 3 3 mixed; (dsimp only [List.map] <;> exact rfl); exact rfl; kernel_rfl; ((repeat (apply Abe.next; exact rfl; (simp only [push_cast, seval, rM_4, rM_s4] <;> (try simp (disch := omega) only [wI, wU, wC]) <;> exact rfl); (focus ((try simp only [push_cast, seval, rM_4, rM_s4]) <;> exact sT)))); (apply Abe.eff; exact rfl; (simp only [push_cast, seval, rM_4, rM_s4] <;> (try simp (disch := omega) only [wI, wU, wC]) <;> exact rfl); (focus ((try simp only [push_cast, seval, rM_4, rM_s4]) <;> exact sT)); (try dsimp only [putA])); (repeat (apply Abe.next; exact rfl; (simp only [push_cast, seval, rM_4, rM_s4] <;> (try simp (disch := omega) only [wI, wU, wC]) <;> exact rfl); (focus ((try simp only [push_cast, seval, rM_4, rM_s4]) <;> exact sT)))); exact Abe.nil))
        repeat (first | apply Wp.seq | apply Wp.block | (apply Run.next; (simp only [push_cast, seval, rM_4, rM_s4] <;> (try simp (disch := omega) only [wI, wU, wC]) <;> exact rfl); (focus ((try simp only [push_cast, seval, rM_4, rM_s4]) <;> exact sT))) | ((first | apply Run.nil | apply Wp.skip); dsimp only [sQ, tQ, bQ]) | (apply Wp.run; (dsimp only [List.map] <;> exact rfl); exact rfl) | (apply Wp.exit; dsimp only [sQ, tQ, bQ]; simp only [reduceIte]) | (apply Run.gtrue; (simp only [push_cast, seval, rM_4, rM_s4] <;> (try simp (disch := omega) only [wI, wU, wC]) <;> exact rfl); (simp only [push_cast, seval, rM_4, rM_s4] <;> (try simp (disch := omega) only [wI, wU, wC]) <;> exact rfl)) | (apply Run.gfalse (.bool false); (simp only [push_cast, seval, rM_4, rM_s4] <;> (try simp (disch := omega) only [wI, wU, wC]) <;> exact rfl); dsimp only [S.put, optG]) | (apply Wp.condT; (simp only [push_cast, seval, rM_4, rM_s4] <;> (try simp (disch := omega) only [wI, wU, wC]) <;> exact rfl)) | (apply Wp.condF; (simp only [push_cast, seval, rM_4, rM_s4] <;> (try simp (disch := omega) only [wI, wU, wC]) <;> exact rfl)))
        refine Wp.empt 8 1 (A := some A) (by (simp only [push_cast, seval, rM_4, rM_s4] <;> (try simp (disch := omega) only [wI, wU, wC]) <;> exact rfl)) ?_
        (apply Wp.ret; (try dsimp only [sQ, tQ, bQ]); apply leave0; exact rfl; (simp only [push_cast, seval, rM_4, rM_s4] <;> (try simp (disch := omega) only [wI, wU, wC]) <;> exact rfl); all_goals (try simp only [push_cast, seval, rM_4, rM_s4]); (try rfl))
        rw [if_pos h2, if_pos h2]; rfl
    · rw [if_pos rfl, if_neg h2, if_neg (fun h => h2 h.2.1), if_neg (fun h => h2 h.2.1)]
      by_cases h3 : wi kind 0 ((ks.length : Int) - 1) = true
      · have hkk := wi_iff.1 h3
        have hit := item_pure hv kind lost (by omega)
        have h4 : wi lost 0 ((ks.getD kind.toNat st0).items - 1) = false := by
          rw [← Bool.not_eq_true]; intro h; exact h2 (by unfold rkB; rw [h3, h]; rfl)
        rw [h3] at hkd
        rw [h4] at hit
        (refine Spec.of_body Try.func41 rfl (by rw [Try.ntmps41]; simp) 0 (by simp) ?_; rw [Try.results41, Try.ntmps41]; simp only [entry, zipArgs, Nat.reduceAdd])
        repeat (first | apply Wp.seq | apply Wp.block | (apply Run.next; (simp only [push_cast, seval] <;> (try simp (disch := omega) only [wI, wU, wC]) <;> exact rfl); (focus ((try simp only [push_cast, seval]) <;> exact sT))) | ((first | apply Run.nil | apply Wp.skip); dsimp only [sQ, tQ, bQ]) | (apply Wp.run; (dsimp only [List.map] <;> exact rfl); exact rfl) | (apply Wp.exit; dsimp only [sQ, tQ, bQ]; simp only [reduceIte]))
        (apply Run.pureP; (simp only [push_cast, seval] <;> (try simp (disch := omega) only [wI, wU, wC]) <;> exact rfl); (exact (Enters.of Try.func59 rfl rfl)); (exact hck); (focus (simp only [push_cast, seval] <;> first | trivial | assumption | (refine ⟨?_, ?_⟩ <;> assumption) | (simp; done))); (try dsimp only [putA, optG]))
        repeat (first | apply Wp.seq | apply Wp.block | (apply Run.next; (simp only [push_cast, seval] <;> (try simp (disch := omega) only [wI, wU, wC]) <;> exact rfl); (focus ((try simp only [push_cast, seval]) <;> exact sT))) | ((first | apply Run.nil | apply Wp.skip); dsimp only [sQ, tQ, bQ]) | (apply Wp.run; (dsimp only [List.map] <;> exact rfl); exact rfl) | (apply Wp.exit; dsimp only [sQ, tQ, bQ]; simp only [reduceIte]) | (apply Run.gtrue; (simp only [push_cast, seval] <;> (try simp (disch := omega) only [wI, wU, wC]) <;> exact rfl); (simp only [push_cast, seval] <;> (try simp (disch := omega) only [wI, wU, wC]) <;> exact rfl)) | (apply Run.gfalse (.bool false); (simp only [push_cast, seval] <;> (try simp (disch := omega) only [wI, wU, wC]) <;> exact rfl); dsimp only [S.put, optG]) | (apply Wp.condT; (simp only [push_cast, seval] <;> (try simp (disch := omega) only [wI, wU, wC]) <;> exact rfl)) | (apply Wp.condF; (simp only [push_cast, seval] <;> (try simp (disch := omega) only [wI, wU, wC]) <;> exact rfl)))
        (apply Run.pureP; (simp only [push_cast, seval] <;> (try simp (disch := omega) only [wI, wU, wC]) <;> exact rfl); (exact (Enters.of Try.func60 rfl rfl)); (exact hkd); (focus (simp only [push_cast, seval] <;> first | trivial | assumption | (refine ⟨?_, ?_⟩ <;> assumption) | (simp; done))); (try dsimp only [putA, optG]))
        repeat (first | apply Wp.seq | apply Wp.block | (apply Run.next; (simp only [push_cast, seval] <;> (try simp (disch := omega) only [wI, wU, wC]) <;> exact rfl); (focus ((try simp only [push_cast, seval]) <;> exact sT))) | ((first | apply Run.nil | apply Wp.skip); dsimp only [sQ, tQ, bQ]) | (apply Wp.run; (dsimp only [List.map] <;> exact rfl); exact rfl) | (apply Wp.exit; dsimp only [sQ, tQ, bQ]; simp only [reduceIte]) | (apply Run.gtrue; (simp only [push_cast, seval] <;> (try simp (disch := omega) only [wI, wU, wC]) <;> exact rfl); (simp only [push_cast, seval] <;> (try simp (disch := omega) only [wI, wU, wC]) <;> exact rfl)) | (apply Run.gfalse (.bool false); (simp only [push_cast, seval] <;> (try simp (disch := omega) only [wI, wU, wC]) <;> exact rfl); dsimp only [S.put, optG]) | (apply Wp.condT; (simp only [push_cast, seval] <;> (try simp (disch := omega) only [wI, wU, wC]) <;> exact rfl)) | (apply Wp.condF; (simp only [push_cast, seval] <;> (try simp (disch := omega) only [wI, wU, wC]) <;> exact rfl)))
        (apply Run.pureP; (simp only [push_cast, seval] <;> (try simp (disch := omega) only [wI, wU, wC]) <;> exact rfl); (exact (Enters.of Try.func73 rfl rfl)); (exact hit); (focus (simp only [push_cast, seval] <;> first | trivial | assumption | (refine ⟨?_, ?_⟩ <;> assumption) | (simp; done))); (try dsimp only [putA, optG]))
        repeat (first | apply Wp.seq | apply Wp.block | (apply Run.next; (simp only [push_cast, seval] <;> (try simp (disch := omega) only [wI, wU, wC]) <;> exact rfl); (focus ((try simp only [push_cast, seval]) <;> exact sT))) | ((first | apply Run.nil | apply Wp.skip); dsimp only [sQ, tQ, bQ]) | (apply Wp.run; (dsimp only [List.map] <;> exact rfl); exact rfl) | (apply Wp.exit; dsimp only [sQ, tQ, bQ]; simp only [reduceIte]) | (apply Run.gtrue; (simp only [push_cast, seval] <;> (try simp (disch := omega) only [wI, wU, wC]) <;> exact rfl); (simp only [push_cast, seval] <;> (try simp (disch := omega) only [wI, wU, wC]) <;> exact rfl)) | (apply Run.gfalse (.bool false); (simp only [push_cast, seval] <;> (try simp (disch := omega) only [wI, wU, wC]) <;> exact rfl); dsimp only [S.put, optG]) | (apply Wp.condT; (simp only [push_cast, seval] <;> (try simp (disch := omega) only [wI, wU, wC]) <;> exact rfl)) | (apply Wp.condF; (simp only [push_cast, seval] <;> (try simp (disch := omega) only [wI, wU, wC]) <;> exact rfl)))
        (apply Wp.ret; (try dsimp only [sQ, tQ, bQ]); apply leave0; exact rfl; (simp only [push_cast, seval] <;> (try simp (disch := omega) only [wI, wU, wC]) <;> exact rfl); all_goals (try simp only [push_cast, seval]); (try rfl))
      · rw [Bool.not_eq_true] at h3
        rw [h3] at hkd
        (refine Spec.of_body Try.func41 rfl (by rw [Try.ntmps41]; simp) 0 (by simp) ?_; rw [Try.results41, Try.ntmps41]; simp only [entry, zipArgs, Nat.reduceAdd])
        repeat (first | apply Wp.seq | apply Wp.block | (apply Run.next; (simp only [push_cast, seval] <;> (try simp (disch := omega) only [wI, wU, wC]) <;> exact rfl); (focus ((try simp only [push_cast, seval]) <;> exact sT))) | ((first | apply Run.nil | apply Wp.skip); dsimp only [sQ, tQ, bQ]) | (apply Wp.run; (dsimp only [List.map] <;> exact rfl); exact rfl) | (apply Wp.exit; dsimp only [sQ, tQ, bQ]; simp only [reduceIte]))
        (apply Run.pureP; (simp only [push_cast, seval] <;> (try simp (disch := omega) only [wI, wU, wC]) <;> exact rfl); (exact (Enters.of Try.func59 rfl rfl)); (exact hck); (focus (simp only [push_cast, seval] <;> first | trivial | assumption | (refine ⟨?_, ?_⟩ <;> assumption) | (simp; done))); (try dsimp only [putA, optG]))
        repeat (first | apply Wp.seq | apply Wp.block | (apply Run.next; (simp only [push_cast, seval] <;> (try simp (disch := omega) only [wI, wU, wC]) <;> exact rfl); (focus ((try simp only [push_cast, seval]) <;> exact sT))) | ((first | apply Run.nil | apply Wp.skip); dsimp only [sQ, tQ, bQ]) | (apply Wp.run; (dsimp only [List.map] <;> exact rfl); exact rfl) | (apply Wp.exit; dsimp only [sQ, tQ, bQ]; simp only [reduceIte]) | (apply Run.gtrue; (simp only [push_cast, seval] <;> (try simp (disch := omega) only [wI, wU, wC]) <;> exact rfl); (simp only [push_cast, seval] <;> (try simp (disch := omega) only [wI, wU, wC]) <;> exact rfl)) | (apply Run.gfalse (.bool false); (simp only [push_cast, seval] <;> (try simp (disch := omega) only [wI, wU, wC]) <;> exact rfl); dsimp only [S.put, optG]) | (apply Wp.condT; (simp only [push_cast, seval] <;> (try simp (disch := omega) only [wI, wU, wC]) <;> exact rfl)) | (apply Wp.condF; (simp only [push_cast, seval] <;> (try simp (disch := omega) only [wI, wU, wC]) <;> exact rfl)))
        (apply Run.pureP; (simp only [push_cast, seval] <;> (try simp (disch := omega) only [wI, wU, wC]) <;> exact rfl); (exact (Enters.of Try.func60 rfl rfl)); (exact hkd); (focus (simp only [push_cast, seval] <;> first | trivial | assumption | (refine ⟨?_, ?_⟩ <;> assumption) | (simp; done))); (try dsimp only [putA, optG]))
        repeat (first | apply Wp.seq | apply Wp.block | (apply Run.next; (simp only [push_cast, seval] <;> (try simp (disch := omega) only [wI, wU, wC]) <;> exact rfl); (focus ((try simp only [push_cast, seval]) <;> exact sT))) | ((first | apply Run.nil | apply Wp.skip); dsimp only [sQ, tQ, bQ]) | (apply Wp.run; (dsimp only [List.map] <;> exact rfl); exact rfl) | (apply Wp.exit; dsimp only [sQ, tQ, bQ]; simp only [reduceIte]) | (apply Run.gtrue; (simp only [push_cast, seval] <;> (try simp (disch := omega) only [wI, wU, wC]) <;> exact rfl); (simp only [push_cast, seval] <;> (try simp (disch := omega) only [wI, wU, wC]) <;> exact rfl)) | (apply Run.gfalse (.bool false); (simp only [push_cast, seval] <;> (try simp (disch := omega) only [wI, wU, wC]) <;> exact rfl); dsimp only [S.put, optG]) | (apply Wp.condT; (simp only [push_cast, seval] <;> (try simp (disch := omega) only [wI, wU, wC]) <;> exact rfl)) | (apply Wp.condF; (simp only [push_cast, seval] <;> (try simp (disch := omega) only [wI, wU, wC]) <;> exact rfl)))
        (apply Wp.ret; (try dsimp only [sQ, tQ, bQ]); apply leave0; exact rfl; (simp only [push_cast, seval] <;> (try simp (disch := omega) only [wI, wU, wC]) <;> exact rfl); all_goals (try simp only [push_cast, seval]); (try rfl))
  · rw [if_neg (fun h => h1 h.1), if_neg (fun h => h1 h.1), if_neg h1]
    generalize chk2E ks ls pl = e at hck h1
    have he : decide (e = 0) = false := decide_eq_false h1
    (refine Spec.of_body Try.func41 rfl (by rw [Try.ntmps41]; simp) 0 (by simp) ?_; rw [Try.results41, Try.ntmps41]; simp only [entry, zipArgs, Nat.reduceAdd])
    repeat (first | apply Wp.seq | apply Wp.block | (apply Run.next; (simp only [push_cast, seval, he] <;> (try simp (disch := omega) only [wI, wU, wC]) <;> exact rfl); (focus ((try simp only [push_cast, seval, he]) <;> exact sT))) | ((first | apply Run.nil | apply Wp.skip); dsimp only [sQ, tQ, bQ]) | (apply Wp.run; (dsimp only [List.map] <;> exact rfl); exact rfl) | (apply Wp.exit; dsimp only [sQ, tQ, bQ]; simp only [reduceIte]))
    (apply Run.pureP; (simp only [push_cast, seval, he] <;> (try simp (disch := omega) only [wI, wU, wC]) <;> exact rfl); (exact (Enters.of Try.func59 rfl rfl)); (exact hck); (focus (simp only [push_cast, seval, he] <;> first | trivial | assumption | (refine ⟨?_, ?_⟩ <;> assumption) | (simp; done))); (try dsimp only [putA, optG]))
    repeat (first | apply Wp.seq | apply Wp.block | (apply Run.next; (simp only [push_cast, seval, he] <;> (try simp (disch := omega) only [wI, wU, wC]) <;> exact rfl); (focus ((try simp only [push_cast, seval, he]) <;> exact sT))) | ((first | apply Run.nil | apply Wp.skip); dsimp only [sQ, tQ, bQ]) | (apply Wp.run; (dsimp only [List.map] <;> exact rfl); exact rfl) | (apply Wp.exit; dsimp only [sQ, tQ, bQ]; simp only [reduceIte]) | (apply Run.gtrue; (simp only [push_cast, seval, he] <;> (try simp (disch := omega) only [wI, wU, wC]) <;> exact rfl); (simp only [push_cast, seval, he] <;> (try simp (disch := omega) only [wI, wU, wC]) <;> exact rfl)) | (apply Run.gfalse (.bool false); (simp only [push_cast, seval, he] <;> (try simp (disch := omega) only [wI, wU, wC]) <;> exact rfl); dsimp only [S.put, optG]) | (apply Wp.condT; (simp only [push_cast, seval, he] <;> (try simp (disch := omega) only [wI, wU, wC]) <;> exact rfl)) | (apply Wp.condF; (simp only [push_cast, seval, he] <;> (try simp (disch := omega) only [wI, wU, wC]) <;> exact rfl)))
    (apply Wp.ret; (try dsimp only [sQ, tQ, bQ]); apply leave0; exact rfl; (simp only [push_cast, seval, he] <;> (try simp (disch := omega) only [wI, wU, wC]) <;> exact rfl); all_goals (try simp only [push_cast, seval, he]); (try rfl))
end Go.Proofs.Try
set_option maxHeartbeats 8000000
namespace Go.Proofs.Try
open Go.Vg

/-! the nearest right plan is the nearest one of each kind -/
theorem glue_lex {ks : List St} {ls : List Ln} (hv : SV ks ls) {f : Nat → List Int} {J : List Int} (hJ : J.length = ls.length) (hfl : ∀ k, k < ks.length → (f k).length = (loanP ls (k : Int) ls.length).length) (h : ∀ k, k < ks.length → f k = pick (loanP ls (k : Int) ls.length) J ∨ LxT (f k) (pick (loanP ls (k : Int) ls.length) J)) : glue ls f ls.length = J ∨ LxT (glue ls f ls.length) J := by
  have hgl := glue_len ls f ls.length
  rcases first_diff (n := ls.length) (glue ls f ls.length) J hgl hJ with he | ⟨i, h4, h5, h6⟩
  · exact .inl he
  · right
    refine ⟨i, by rw [hgl]; exact h4, h5, ?_⟩
    have hki := (hv.ln i h4).1
    obtain ⟨k, hk⟩ : ∃ k : Nat, (ls.getD i ln0).kind = (k : Int) := ⟨(ls.getD i ln0).kind.toNat, by omega⟩
    have hkk : k < ks.length := by omega
    obtain ⟨g1, g2⟩ := loanP_at (N := ls.length) h4 hk
    have hpg := pick_glue (hfl k hkk)
    have hpe := pick_ext g1 rfl h5
    rw [hpg] at hpe
    have hgi : (f k).getD (plc ls (k : Int) i) 0 = (glue ls f ls.length).getD i 0 := by rw [glue_get h4, hk, Int.toNat_natCast]
    have hpi : (pick (loanP ls (k : Int) ls.length) J).getD (plc ls (k : Int) i) 0 = J.getD i 0 := by rw [pick_get g1, g2, Int.toNat_natCast]
    rcases h k hkk with e | ⟨a, a1, a2, a3⟩
    · rw [e] at hgi; rw [hgi] at hpi; exact absurd hpi h6
    · have hg : ∀ {A B : List Int} {n m : Nat}, A.take n = B.take n → m < n → A.getD m 0 = B.getD m 0 := by
        intro A B n m e hm
        have := congrArg (fun l => l.getD m 0) e
        simpa [List.getD_eq_getElem?_getD, List.getElem?_take, hm] using this
      rcases Nat.lt_trichotomy a (plc ls (k : Int) i) with h7 | h7 | h7
      · have := hg hpe h7; omega
      · subst h7; omega
      · have := hg a2 h7; omega
/-- in how many a plan differs, kind by kind -/
def pF (pl : List Int) (q : Nat) : Int := pl.getD q 0
theorem df_kinds {ks : List St} {ls : List Ln} (hv : SV ks ls) (pl J : List Int) : ∀ n, n ≤ ls.length → dfN (pF pl) J n = sumN (fun k => dfN (lkP pl (loanP ls (k : Int) ls.length)) (pick (loanP ls (k : Int) ls.length) J) (plc ls (k : Int) n)) ks.length
  | 0, _ => by
    have : ∀ m, sumN (fun k : Nat => dfN (lkP pl (loanP ls (k : Int) ls.length)) (pick (loanP ls (k : Int) ls.length) J) (plc ls (k : Int) 0)) m = 0 := by
      intro m
      induction m with
      | zero => rfl
      | succ m ih => simp only [sumN, ih]; rfl
    rw [this]; rfl
  | n + 1, hn => by
    have ih := df_kinds hv pl J n (by omega)
    have hki := (hv.ln n (by omega)).1
    obtain ⟨k0, hk0⟩ : ∃ k : Nat, (ls.getD n ln0).kind = (k : Int) := ⟨(ls.getD n ln0).kind.toNat, by omega⟩
    have e : (fun k : Nat => dfN (lkP pl (loanP ls (k : Int) ls.length)) (pick (loanP ls (k : Int) ls.length) J) (plc ls (k : Int) (n + 1))) = fun k : Nat => dfN (lkP pl (loanP ls (k : Int) ls.length)) (pick (loanP ls (k : Int) ls.length) J) (plc ls (k : Int) n) + (if k = k0 then (if pl.getD n 0 = J.getD n 0 then 0 else 1) else 0) := by
      funext k
      rw [plc_succ]
      by_cases hk : k = k0
      · subst hk
        obtain ⟨h1, h2⟩ := loanP_at (N := ls.length) (by omega) hk0
        rw [if_pos hk0, if_pos rfl]
        simp only [dfN]
        rw [pick_get h1, h2, Int.toNat_natCast, show lkP pl (loanP ls (k : Int) ls.length) (plc ls (k : Int) n) = pl.getD n 0 by unfold lkP; rw [h2, Int.toNat_natCast]]
        split <;> omega
      · rw [if_neg (by rw [hk0]; omega), if_neg hk]; omega
    rw [e, sum_add, ← ih, sum_one, if_pos (by omega)]
    simp only [dfN]
    show (if pl.getD n 0 = J.getD n 0 then _ else _) = _
    split <;> omega
theorem df_sum {ks : List St} {ls : List Ln} (hv : SV ks ls) (pl : List Int) {J : List Int} (hJ : J.length = ls.length) : dfI (pF pl) J = sumN (fun k => dL pl (loanP ls (k : Int) ls.length) (pick (loanP ls (k : Int) ls.length) J)) ks.length := by
  unfold dfI
  rw [hJ, df_kinds hv pl J ls.length (Nat.le_refl _)]
  congr 1
  funext k
  unfold dL dfI
  rw [pick_len]; rfl
theorem sum_ge {f g : Nat → Int} : ∀ {n : Nat}, (∀ k, k < n → f k ≤ g k) → sumN f n ≤ sumN g n ∧ (sumN f n = sumN g n → ∀ k, k < n → f k = g k)
  | 0, _ => ⟨Int.le_refl _, fun _ k hk => by omega⟩
  | n + 1, h => by
    obtain ⟨h1, h2⟩ := sum_ge (n := n) (fun k hk => h k (by omega))
    have h3 := h n (by omega)
    simp only [sumN]
    refine ⟨by omega, fun he k hk => ?_⟩
    by_cases hkn : k = n
    · subst hkn; omega
    · exact h2 (by omega) k (by omega)
theorem sum_ext {f g : Nat → Int} : ∀ {n : Nat}, (∀ k, k < n → f k = g k) → sumN f n = sumN g n
  | 0, _ => rfl
  | n + 1, h => by simp only [sumN, sum_ext (n := n) (fun k hk => h k (by omega)), h n (by omega)]
/-- whether a plan uses an item -/
def usB (ls : List Ln) (J : List Int) (kind item : Int) : Bool := (List.range J.length).any fun i => decide ((ls.getD i ln0).kind = kind) && decide (J.getD i 0 = item)
theorem okX_take {ls : List Ln} {life : Int} {L : List Int} {lost : Int} {J : List Int} {q : Nat} (h : q < J.length) : okX ls life L lost (J.take (q + 1)) = (okK ls life L (J.take (q + 1)) && !decide (J.getD q 0 = lost)) := by
  unfold okX
  rw [List.length_take, Nat.min_eq_left (by omega), Nat.add_sub_cancel]
  congr 3
  simp only [List.getD_eq_getElem?_getD, List.getElem?_take]
  rw [if_pos (by omega)]
abbrev kdL (ks : List St) (ls : List Ln) (lost : Int) (k : Nat) : List (List Int) := plL (fun _ => (ks.getD k st0).items.toNat) (okX ls (ks.getD k st0).life (loanP ls (k : Int) ls.length) lost) (loanP ls (k : Int) ls.length).length []
theorem kd_mem {ks : List St} {ls : List Ln} {lost : Int} {k : Nat} {J : List Int} : J ∈ kdL ks ls lost k ↔ J.length = (loanP ls (k : Int) ls.length).length ∧ RtF (fun _ => (ks.getD k st0).items.toNat) (okK ls (ks.getD k st0).life (loanP ls (k : Int) ls.length)) 0 J ∧ ∀ q, q < J.length → J.getD q 0 ≠ lost := by
  rw [plL_mem]
  constructor
  · rintro ⟨h1, _, h3⟩
    refine ⟨by simpa using h1, fun q hq1 hq2 => ?_, fun q hq => ?_⟩
    · obtain ⟨j, a1, a2, a3⟩ := h3 q hq1 hq2
      rw [okX_take hq2, Bool.and_eq_true] at a3
      exact ⟨j, a1, a2, a3.1⟩
    · obtain ⟨j, a1, a2, a3⟩ := h3 q (by simp) hq
      rw [okX_take hq, Bool.and_eq_true, Bool.not_eq_true', decide_eq_false_iff_not] at a3
      exact a3.2
  · rintro ⟨h1, h2, h3⟩
    refine ⟨by simpa using h1, by simp, fun q hq1 hq2 => ?_⟩
    obtain ⟨j, a1, a2, a3⟩ := h2 q (by omega) hq2
    refine ⟨j, a1, a2, ?_⟩
    rw [okX_take hq2, a3, decide_eq_false (h3 q hq2)]; rfl
/-- right, and without the item, is that in all kinds -/
theorem near_kinds {ks : List St} {ls : List Ln} (hv : SV ks ls) {kind lost : Int} (hl : 0 ≤ lost) {J : List Int} (hJ : J.length = ls.length) : (RtF (cS ks ls) (okS ks ls) 0 J ∧ usB ls J kind lost = false) ↔ ∀ k : Nat, k < ks.length → pick (loanP ls (k : Int) ls.length) J ∈ kdL ks ls (lostK kind lost k) k := by
  rw [right_kinds hv hJ]
  constructor
  · rintro ⟨h1, h2⟩ k hk
    refine kd_mem.2 ⟨pick_len _ _, h1 k hk, fun q hq => ?_⟩
    rw [pick_len] at hq
    obtain ⟨n, a1, a2, a3, _⟩ := plc_at hq
    rw [pick_get hq, a3, Int.toNat_natCast]
    unfold lostK
    split
    · rename_i hkk
      have h3 := List.any_eq_false.1 h2 n (List.mem_range.2 (by omega))
      simp only [Bool.and_eq_true, decide_eq_true_eq, not_and] at h3
      exact h3 (by rw [a2]; exact hkk)
    · obtain ⟨j, b1, b2, _⟩ := h1 k hk q (by omega) (by rw [pick_len]; exact hq)
      rw [pick_get hq, a3, Int.toNat_natCast] at b2
      omega
  · intro h
    refine ⟨fun k hk => (kd_mem.1 (h k hk)).2.1, ?_⟩
    refine List.any_eq_false.2 fun i hi => ?_
    rw [List.mem_range] at hi
    simp only [Bool.and_eq_true, decide_eq_true_eq, not_and]
    intro hki
    have hk := (hv.ln i (by omega)).1
    obtain ⟨k, rfl⟩ : ∃ k : Nat, kind = (k : Int) := ⟨kind.toNat, by omega⟩
    obtain ⟨g1, g2⟩ := loanP_at (N := ls.length) (by omega) hki
    have := (kd_mem.1 (h k (by omega))).2.2 (plc ls (k : Int) i) (by rw [pick_len]; exact g1)
    rw [pick_get g1, g2, Int.toNat_natCast, lostK, if_pos rfl] at this
    exact this
theorem rpK_best {ks : List St} {ls : List Ln} {pl : List Int} {kind lost : Int} {k : Nat} : (rpK ks ls pl kind lost k = none ∧ kdL ks ls (lostK kind lost k) k = []) ∨ ∃ J, rpK ks ls pl kind lost k = some (J, dL pl (loanP ls (k : Int) ls.length) J) ∧ BestIn (dL pl (loanP ls (k : Int) ls.length)) (fun x => x ∈ kdL ks ls (lostK kind lost k) k) J :=
  stF_best (D := dL pl (loanP ls (k : Int) ls.length)) plL_sorted
theorem chK_sum (ks : List St) (ls : List Ln) (pl : List Int) (kind lost : Int) : ∀ n, chK ks ls pl kind lost n = sumN (fun k => mA (rpK ks ls pl kind lost k)) n
  | 0 => rfl
  | n + 1 => by simp only [chK, sumN, chK_sum ks ls pl kind lost n]
/-- the right plans that do not use the item -/
def NearP (ks : List St) (ls : List Ln) (kind lost : Int) (J : List Int) : Prop := J.length = ls.length ∧ RtF (cS ks ls) (okS ks ls) 0 J ∧ usB ls J kind lost = false
theorem near_none {ks : List St} {ls : List Ln} (hv : SV ks ls) {pl : List Int} {kind lost : Int} (hl : 0 ≤ lost) {k : Nat} (hk : k < ks.length) (h : rpK ks ls pl kind lost k = none) : ∀ J, ¬ NearP ks ls kind lost J := by
  rintro J ⟨h1, h2⟩
  have h3 := (near_kinds hv hl h1).1 h2 k hk
  rcases rpK_best (ks := ks) (ls := ls) (pl := pl) (kind := kind) (lost := lost) (k := k) with ⟨_, h4⟩ | ⟨J', h4, _⟩
  · rw [h4] at h3; cases h3
  · rw [h] at h4; cases h4
theorem near_best {ks : List St} {ls : List Ln} (hv : SV ks ls) {pl : List Int} {kind lost : Int} (hl : 0 ≤ lost) (h : ∀ k, k < ks.length → (rpK ks ls pl kind lost k).isSome = true) : BestIn (dfI (pF pl)) (NearP ks ls kind lost) (glue ls (rpF ks ls pl kind lost) ls.length) ∧ dfI (pF pl) (glue ls (rpF ks ls pl kind lost) ls.length) = chK ks ls pl kind lost ks.length := by
  have hb : ∀ k, k < ks.length → rpK ks ls pl kind lost k = some (rpF ks ls pl kind lost k, dL pl (loanP ls (k : Int) ls.length) (rpF ks ls pl kind lost k)) ∧ BestIn (dL pl (loanP ls (k : Int) ls.length)) (fun x => x ∈ kdL ks ls (lostK kind lost k) k) (rpF ks ls pl kind lost k) := by
    intro k hk
    rcases rpK_best (ks := ks) (ls := ls) (pl := pl) (kind := kind) (lost := lost) (k := k) with ⟨h4, _⟩ | ⟨J', h4, h5⟩
    · have := h k hk; rw [h4] at this; cases this
    · have e : rpF ks ls pl kind lost k = J' := by unfold rpF; rw [h4]; rfl
      rw [e]; exact ⟨h4, h5⟩
  have hfl : ∀ k, k < ks.length → (rpF ks ls pl kind lost k).length = (loanP ls (k : Int) ls.length).length := fun k hk => (kd_mem.1 (hb k hk).2.1).1
  have hgl := glue_len ls (rpF ks ls pl kind lost) ls.length
  have hds : dfI (pF pl) (glue ls (rpF ks ls pl kind lost) ls.length) = sumN (fun k => dL pl (loanP ls (k : Int) ls.length) (rpF ks ls pl kind lost k)) ks.length := by
    rw [df_sum hv pl hgl]
    exact sum_ext fun k hk => by rw [pick_glue (hfl k hk)]
  refine ⟨⟨⟨hgl, (near_kinds hv hl hgl).2 fun k hk => ?_⟩, fun J hJ => ?_⟩, ?_⟩
  · rw [pick_glue (hfl k hk)]; exact (hb k hk).2.1
  · obtain ⟨j1, j2⟩ := hJ
    have hm := (near_kinds hv hl j1).1 j2
    have hc := fun k hk => (hb k hk).2.2 _ (hm k hk)
    obtain ⟨s1, s2⟩ := sum_ge (f := fun k => dL pl (loanP ls (k : Int) ls.length) (rpF ks ls pl kind lost k)) (g := fun k => dL pl (loanP ls (k : Int) ls.length) (pick (loanP ls (k : Int) ls.length) J)) (n := ks.length) (fun k hk => by
      rcases hc k hk with a | ⟨a, _⟩
      · omega
      · omega)
    rw [hds, df_sum hv pl j1]
    by_cases he : sumN (fun k => dL pl (loanP ls (k : Int) ls.length) (rpF ks ls pl kind lost k)) ks.length = sumN (fun k => dL pl (loanP ls (k : Int) ls.length) (pick (loanP ls (k : Int) ls.length) J)) ks.length
    · right
      refine ⟨he, glue_lex hv j1 hfl fun k hk => ?_⟩
      have hek := s2 he k hk
      rcases hc k hk with a | ⟨_, a⟩
      · omega
      · exact a
    · left; omega
  · rw [hds, chK_sum]
    exact sum_ext fun k hk => by rw [(hb k hk).1]; rfl
end Go.Proofs.Try
set_option maxHeartbeats 8000000
namespace Go.Proofs.Try
open Go.Vg

/-! the document's Repair -/
theorem Differ_pure (a b : List Int) (h : a.length ≤ b.length) (hb : b.length ≤ 9223372036854775807) : Pure Try.prog 44 [.ints a, .ints b] (.int (dfI (pF b) a)) := by
  unfold dfI
  have hbd := fun n => dfN_bd (pF b) a n
  have hs : ∀ n, dfN (pF b) a (n + 1) = if b.getD n 0 = a.getD n 0 then dfN (pF b) a n else dfN (pF b) a n + 1 := fun _ => rfl
  have h0 : dfN (pF b) a 0 = 0 := rfl
  generalize dfN (pF b) a = f at hbd hs h0
  (refine Spec.of_body Try.func44 rfl (by rw [Try.ntmps44]; simp) 0 (by simp) ?_; rw [Try.results44, Try.ntmps44]; simp only [entry, zipArgs, Nat.reduceAdd])
  repeat (first | apply Wp.seq | apply Wp.block | (apply Run.next; (simp only [push_cast, seval] <;> (try simp (disch := omega) only [wI, wU, wC]) <;> exact rfl); (focus ((try simp only [push_cast, seval]) <;> exact sT))) | ((first | apply Run.nil | apply Wp.skip); dsimp only [sQ, tQ, bQ]) | (apply Wp.run; (dsimp only [List.map] <;> exact rfl); exact rfl) | (apply Wp.exit; dsimp only [sQ, tQ, bQ]; simp only [reduceIte]))
  refine Wp.loop (fun (k : Nat) => { t := [(0, .ints a), (1, .ints b), (5, .int (f k)), (6, .int k)], m := [], n := 25 }) (fun k => k ≤ a.length) (fun k => a.length - k) 0 ?_ ?_ ?_
  · rw [h0]
    (refine Le.of ?_ ?_ rfl rfl <;> (try simp only [push_cast, seval]) <;> (try (with_reducible rfl)))
  · simp
  · intro k hk
    have hbk := hbd k
    have hsk := hs k
    generalize hfk : f k = d at hbk hsk
    repeat (first | apply Wp.seq | apply Wp.block | (apply Run.next; (simp only [push_cast, seval] <;> (try simp (disch := omega) only [wI, wU, wC]) <;> exact rfl); (focus ((try simp only [push_cast, seval]) <;> exact sT))) | ((first | apply Run.nil | apply Wp.skip); dsimp only [sQ, tQ, bQ]) | (apply Wp.run; (dsimp only [List.map] <;> exact rfl); exact rfl) | (apply Wp.exit; dsimp only [sQ, tQ, bQ]; simp only [reduceIte]))
    (apply Wp.cond; (simp only [push_cast, seval] <;> (try simp (disch := omega) only [wI, wU, wC]) <;> exact rfl))
    · intro hc
      simp only [decide_eq_true_eq, Int.ofNat_lt] at hc
      generalize hx : a.getD k 0 = x at hsk
      generalize hy : b.getD k 0 = y at hsk
      repeat (first | apply Wp.seq | apply Wp.block | (apply Run.next; (simp only [push_cast, seval, hx, hy] <;> (try simp (disch := omega) only [wI, wU, wC]) <;> exact rfl); (focus ((try simp only [push_cast, seval, hx, hy]) <;> exact sT))) | ((first | apply Run.nil | apply Wp.skip); dsimp only [sQ, tQ, bQ]) | (apply Wp.run; (dsimp only [List.map] <;> exact rfl); exact rfl) | (apply Wp.exit; dsimp only [sQ, tQ, bQ]; simp only [reduceIte]))
      (apply Wp.runD 9 mixed; (dsimp only [List.map] <;> exact rfl); exact rfl; kernel_rfl; (dsimp only [List.take] <;> exact rfl); (dsimp only [List.drop] <;> exact rfl); (((repeat (apply Abn.next; (simp only [push_cast, seval, hx, hy] <;> (try simp (disch := omega) only [wI, wU, wC]) <;> exact rfl); (focus ((try simp only [push_cast, seval, hx, hy]) <;> exact sT))))); exact Abn.nil))
      repeat (first | apply Wp.seq | apply Wp.block | (apply Run.next; (simp only [push_cast, seval, hx, hy] <;> (try simp (disch := omega) only [wI, wU, wC]) <;> exact rfl); (focus ((try simp only [push_cast, seval, hx, hy]) <;> exact sT))) | ((first | apply Run.nil | apply Wp.skip); dsimp only [sQ, tQ, bQ]) | (apply Wp.run; (dsimp only [List.map] <;> exact rfl); exact rfl) | (apply Wp.exit; dsimp only [sQ, tQ, bQ]; simp only [reduceIte]))
      (apply Wp.cond; (simp only [push_cast, seval, hx, hy] <;> (try simp (disch := omega) only [wI, wU, wC]) <;> exact rfl))
      · intro h2
        simp only [Bool.not_eq_true', decide_eq_false_iff_not] at h2
        rw [if_neg (fun e => h2 e.symm)] at hsk
        repeat (first | apply Wp.seq | apply Wp.block | (apply Run.next; (simp only [push_cast, seval, hx, hy] <;> (try simp (disch := omega) only [wI, wU, wC]) <;> exact rfl); (focus ((try simp only [push_cast, seval, hx, hy]) <;> exact sT))) | ((first | apply Run.nil | apply Wp.skip); dsimp only [sQ, tQ, bQ]) | (apply Wp.run; (dsimp only [List.map] <;> exact rfl); exact rfl) | (apply Wp.exit; dsimp only [sQ, tQ, bQ]; simp only [reduceIte]))
        refine ⟨k + 1, ?_, by omega, by omega⟩
        rw [hsk]
        (refine Le.of ?_ ?_ rfl rfl <;> (try simp only [push_cast, seval, hx, hy]) <;> (try (with_reducible rfl)))
      · intro h2
        simp only [Bool.not_eq_false', decide_eq_true_eq] at h2
        rw [if_pos h2.symm] at hsk
        repeat (first | apply Wp.seq | apply Wp.block | (apply Run.next; (simp only [push_cast, seval, hx, hy] <;> (try simp (disch := omega) only [wI, wU, wC]) <;> exact rfl); (focus ((try simp only [push_cast, seval, hx, hy]) <;> exact sT))) | ((first | apply Run.nil | apply Wp.skip); dsimp only [sQ, tQ, bQ]) | (apply Wp.run; (dsimp only [List.map] <;> exact rfl); exact rfl) | (apply Wp.exit; dsimp only [sQ, tQ, bQ]; simp only [reduceIte]))
        refine ⟨k + 1, ?_, by omega, by omega⟩
        rw [hsk]
        (refine Le.of ?_ ?_ rfl rfl <;> (try simp only [push_cast, seval, hx, hy]) <;> (try (with_reducible rfl)))
    · intro hc
      simp only [decide_eq_false_iff_not, Int.ofNat_lt] at hc
      obtain rfl : k = a.length := by omega
      repeat (first | apply Wp.seq | apply Wp.block | (apply Run.next; (simp only [push_cast, seval] <;> (try simp (disch := omega) only [wI, wU, wC]) <;> exact rfl); (focus ((try simp only [push_cast, seval]) <;> exact sT))) | ((first | apply Run.nil | apply Wp.skip); dsimp only [sQ, tQ, bQ]) | (apply Wp.run; (dsimp only [List.map] <;> exact rfl); exact rfl) | (apply Wp.exit; dsimp only [sQ, tQ, bQ]; simp only [reduceIte]))
      (apply Wp.ret; (try dsimp only [sQ, tQ, bQ]); apply leave0; exact rfl; (simp only [push_cast, seval] <;> (try simp (disch := omega) only [wI, wU, wC]) <;> exact rfl); all_goals (try simp only [push_cast, seval]); (try rfl))
      rw [hfk]
theorem Uses_pure (ks : List St) (ls : List Ln) (J : List Int) (kind item : Int) (h : J.length ≤ ls.length) (hl : ls.length ≤ 9223372036854775807) : Pure Try.prog 77 [storA ks ls, .ints J, .int kind, .int item] (.bool (usB ls J kind item)) := by
  have hyes := fun i (hi : i < J.length) => any_yes (p := fun i => decide ((ls.getD i ln0).kind = kind) && decide (J.getD i 0 = item)) hi
  have hno := any_no (n := J.length) (p := fun i => decide ((ls.getD i ln0).kind = kind) && decide (J.getD i 0 = item))
  unfold usB
  generalize ((List.range J.length).any fun i => decide ((ls.getD i ln0).kind = kind) && decide (J.getD i 0 = item)) = g at hyes hno
  (refine Spec.of_body Try.func77 rfl (by rw [Try.ntmps77]; simp) 0 (by simp) ?_; rw [Try.results77, Try.ntmps77]; simp only [entry, zipArgs, Nat.reduceAdd])
  repeat (first | apply Wp.seq | apply Wp.block | (apply Run.next; (simp only [push_cast, seval] <;> (try simp (disch := omega) only [wI, wU, wC]) <;> exact rfl); (focus ((try simp only [push_cast, seval]) <;> exact sT))) | ((first | apply Run.nil | apply Wp.skip); dsimp only [sQ, tQ, bQ]) | (apply Wp.run; (dsimp only [List.map] <;> exact rfl); exact rfl) | (apply Wp.exit; dsimp only [sQ, tQ, bQ]; simp only [reduceIte]))
  refine Wp.loop (fun (k : Nat) => { t := [(1, .ints J), (2, .int kind), (3, .int item), (4, .optr 0 0 0 0), (9, .int k)], m := [⟨0, .row 2 [storA ks ls]⟩], n := 32 }) (fun k => k ≤ J.length ∧ ∀ i, i < k → (decide ((ls.getD i ln0).kind = kind) && decide (J.getD i 0 = item)) = false) (fun k => J.length - k) 0 ?_ ?_ ?_
  · (refine Le.of ?_ ?_ rfl rfl <;> (try simp only [push_cast, seval]) <;> (try (with_reducible rfl)))
  · simp
  · rintro k ⟨hk1, hk2⟩
    have hyk := hyes k
    repeat (first | apply Wp.seq | apply Wp.block | (apply Run.next; (simp only [push_cast, seval] <;> (try simp (disch := omega) only [wI, wU, wC]) <;> exact rfl); (focus ((try simp only [push_cast, seval]) <;> exact sT))) | ((first | apply Run.nil | apply Wp.skip); dsimp only [sQ, tQ, bQ]) | (apply Wp.run; (dsimp only [List.map] <;> exact rfl); exact rfl) | (apply Wp.exit; dsimp only [sQ, tQ, bQ]; simp only [reduceIte]))
    (apply Wp.cond; (simp only [push_cast, seval] <;> (try simp (disch := omega) only [wI, wU, wC]) <;> exact rfl))
    · intro hc
      simp only [decide_eq_true_eq, Int.ofNat_lt] at hc
      have hyk := hyk hc
      have hk2' := hk2
      generalize hx : ls.getD k ln0 = x at hyk
      generalize hj : J.getD k 0 = j at hyk
      repeat (first | apply Wp.seq | apply Wp.block | (apply Run.next; (simp only [push_cast, seval, hx, hj] <;> (try simp (disch := omega) only [wI, wU, wC]) <;> exact rfl); (focus ((try simp only [push_cast, seval, hx, hj]) <;> exact sT))) | ((first | apply Run.nil | apply Wp.skip); dsimp only [sQ, tQ, bQ]) | (apply Wp.run; (dsimp only [List.map] <;> exact rfl); exact rfl) | (apply Wp.exit; dsimp only [sQ, tQ, bQ]; simp only [reduceIte]))
      (apply Wp.cond; (simp only [push_cast, seval, hx, hj] <;> (try simp (disch := omega) only [wI, wU, wC]) <;> exact rfl))
      · intro h2
        have := hyk h2
        subst this
        repeat (first | apply Wp.seq | apply Wp.block | (apply Run.next; (simp only [push_cast, seval, hx, hj] <;> (try simp (disch := omega) only [wI, wU, wC]) <;> exact rfl); (focus ((try simp only [push_cast, seval, hx, hj]) <;> exact sT))) | ((first | apply Run.nil | apply Wp.skip); dsimp only [sQ, tQ, bQ]) | (apply Wp.run; (dsimp only [List.map] <;> exact rfl); exact rfl) | (apply Wp.exit; dsimp only [sQ, tQ, bQ]; simp only [reduceIte]))
        (apply Wp.ret; (try dsimp only [sQ, tQ, bQ]); apply leave0; exact rfl; (simp only [push_cast, seval, hx, hj] <;> (try simp (disch := omega) only [wI, wU, wC]) <;> exact rfl); all_goals (try simp only [push_cast, seval, hx, hj]); (try rfl))
      · intro h2
        repeat (first | apply Wp.seq | apply Wp.block | (apply Run.next; (simp only [push_cast, seval, hx, hj] <;> (try simp (disch := omega) only [wI, wU, wC]) <;> exact rfl); (focus ((try simp only [push_cast, seval, hx, hj]) <;> exact sT))) | ((first | apply Run.nil | apply Wp.skip); dsimp only [sQ, tQ, bQ]) | (apply Wp.run; (dsimp only [List.map] <;> exact rfl); exact rfl) | (apply Wp.exit; dsimp only [sQ, tQ, bQ]; simp only [reduceIte]))
        refine ⟨k + 1, ?_, ⟨by omega, fun i hi => ?_⟩, by omega⟩
        · (refine Le.of ?_ ?_ rfl rfl <;> (try simp only [push_cast, seval, hx, hj]) <;> (try (with_reducible rfl)))
        · by_cases hik : i = k
          · rw [hik, hx, hj]; exact h2
          · exact hk2' i (by omega)
    · intro hc
      simp only [decide_eq_false_iff_not, Int.ofNat_lt] at hc
      obtain rfl : k = J.length := by omega
      have := hno hk2
      subst this
      repeat (first | apply Wp.seq | apply Wp.block | (apply Run.next; (simp only [push_cast, seval] <;> (try simp (disch := omega) only [wI, wU, wC]) <;> exact rfl); (focus ((try simp only [push_cast, seval]) <;> exact sT))) | ((first | apply Run.nil | apply Wp.skip); dsimp only [sQ, tQ, bQ]) | (apply Wp.run; (dsimp only [List.map] <;> exact rfl); exact rfl) | (apply Wp.exit; dsimp only [sQ, tQ, bQ]; simp only [reduceIte]))
      (apply Wp.ret; (try dsimp only [sQ, tQ, bQ]); apply leave0; exact rfl; (simp only [push_cast, seval] <;> (try simp (disch := omega) only [wI, wU, wC]) <;> exact rfl); all_goals (try simp only [push_cast, seval]); (try rfl))
/-- all right plans -/
abbrev allP (ks : List St) (ls : List Ln) : List (List Int) := plL (cS ks ls) (okS ks ls) ls.length []
theorem allP_len {ks : List St} {ls : List Ln} {J : List Int} (h : J ∈ allP ks ls) : J.length = ls.length := by
  have := (plL_mem.1 h).1
  simpa using this
def stD (ks : List St) (ls : List Ln) (pl : List Int) (kind lost : Int) (i : Nat) : Bs := stF (dfI (pF pl)) none (((allP ks ls).take i).filter fun J => !usB ls J kind lost)
theorem stD_succ (ks : List St) (ls : List Ln) (pl : List Int) (kind lost : Int) {i : Nat} (h : i < (allP ks ls).length) : stD ks ls pl kind lost (i + 1) = if usB ls ((allP ks ls).getD i []) kind lost = true then stD ks ls pl kind lost i else betB (stD ks ls pl kind lost i) ((allP ks ls).getD i []) (dfI (pF pl) ((allP ks ls).getD i [])) := by
  have e : (allP ks ls).take (i + 1) = (allP ks ls).take i ++ [(allP ks ls).getD i []] := by rw [List.take_add_one]; simp [h]
  unfold stD
  rw [e, List.filter_append]
  cases hu : usB ls ((allP ks ls).getD i []) kind lost with
  | true => rw [List.filter_cons, if_neg (by rw [hu]; simp)]; simp
  | false => rw [List.filter_cons, if_pos (by rw [hu]; rfl), if_neg (by simp), List.filter_nil, stF_snoc]
theorem stD_end {ks : List St} {ls : List Ln} (hv : SV ks ls) (pl : List Int) {kind lost : Int} (hl : 0 ≤ lost) : stD ks ls pl kind lost (allP ks ls).length = if rpAll ks ls pl kind lost = true then some (rpG ks ls pl kind lost, chK ks ls pl kind lost ks.length) else none := by
  unfold stD
  rw [List.take_length]
  have hm : ∀ x, x ∈ (allP ks ls).filter (fun J => !usB ls J kind lost) ↔ NearP ks ls kind lost x := by
    intro x
    rw [List.mem_filter, plL_mem]
    constructor
    · rintro ⟨⟨h1, _, h3⟩, h4⟩
      exact ⟨by simpa using h1, h3, by simpa using h4⟩
    · rintro ⟨h1, h2, h3⟩
      exact ⟨⟨by simpa using h1, by simp, h2⟩, by simp [h3]⟩
  rcases stF_best (D := dfI (pF pl)) (l := (allP ks ls).filter fun J => !usB ls J kind lost) (List.Pairwise.filter _ plL_sorted) with ⟨h1, h2⟩ | ⟨J, h1, h2⟩
  · rw [h1]
    by_cases ha : rpAll ks ls pl kind lost = true
    · have hb := (near_best hv hl (pl := pl) (kind := kind) fun k hk => List.all_eq_true.1 ha k (List.mem_range.2 hk)).1.1
      have := (hm _).2 hb
      rw [h2] at this; cases this
    · rw [if_neg ha]
  · rw [h1]
    by_cases ha : rpAll ks ls pl kind lost = true
    · obtain ⟨hb, hd⟩ := near_best hv hl (pl := pl) (kind := kind) fun k hk => List.all_eq_true.1 ha k (List.mem_range.2 hk)
      have h3 : BestIn (dfI (pF pl)) (NearP ks ls kind lost) J := ⟨(hm _).1 h2.1, fun J' hJ' => h2.2 J' ((hm _).2 hJ')⟩
      have he : J = rpG ks ls pl kind lost := BestIn.uniq h3 hb fun x hx => by rw [hx.1, h3.1.1]
      rw [if_pos ha, he, ← hd]; rfl
    · exfalso
      rw [Bool.not_eq_true] at ha
      obtain ⟨k, hk, hk2⟩ := List.all_eq_false.1 ha
      rw [List.mem_range] at hk
      have : rpK ks ls pl kind lost k = none := by
        cases h : rpK ks ls pl kind lost k with
        | none => rfl
        | some x => rw [h] at hk2; simp at hk2
      exact near_none hv hl hk this J ((hm _).1 h2.1)
end Go.Proofs.Try
set_option maxHeartbeats 8000000
namespace Go.Proofs.Try
open Go.Vg

/-! the document's Repair, and the statement -/
theorem chk2E_c {ks : List St} {ls : List Ln} {plan : List Int} (hc : chk2E ks ls plan = 0) : chkE ks ls = 0 := by
  unfold chk2E at hc
  split at hc
  · rename_i h; unfold chkE; rw [h]; rfl
  · simp at hc
theorem rRepair_pure (ks : List St) (ls : List Ln) (pl : List Int) (kind lost : Int) (hk : ks.length ≤ 9223372036854775807) (hl : ls.length ≤ 9223372036854775807) (hp : pl.length ≤ 9223372036854775807) (hS : chkE ks ls = 0 → ls.length ≤ 8) : Pure Try.prog 42 [storA ks ls, .ints pl, .int kind, .int lost] (.tup [rpA ks ls pl kind lost, .int (rpN ks ls pl kind lost), .int (rpE ks ls pl kind lost)]) := by
  have hck := rcheckPlan_pure ks ls pl hk hl hp
  unfold rpA rpN rpE
  by_cases h1 : chk2E ks ls pl = 0
  · obtain ⟨hv, hpl, _⟩ := chk2E_zero h1
    have hk8 := hv.k8
    have hl8 := hS (chk2E_c h1)
    have hw1 := rwithin_pure kind 0 ((ks.length : Int) - 1)
    rw [h1] at hck ⊢
    by_cases h2 : rkB ks kind lost = true
    · have h3 := h2
      unfold rkB at h3
      rw [Bool.and_eq_true] at h3
      have hkk := wi_iff.1 h3.1
      have hll := wi_iff.1 h3.2
      have hst := hv.st kind.toNat (by omega)
      have hw2 := rwithin_pure lost 0 ((ks.getD kind.toNat st0).items - 1)
      rw [h3.1] at hw1
      rw [h3.2] at hw2
      rw [if_pos rfl, if_pos h2]
      simp only [h2, true_and]
      have hpa : Pure Try.prog 76 [storA ks ls, .emp] (.lst 1 ((allP ks ls).map AV.ints)) := plans_nil hv (by omega)
      have hse := stD_end hv pl (kind := kind) hll.1
      have hss := fun i => stD_succ ks ls pl kind lost (i := i)
      have hs0 : stD ks ls pl kind lost 0 = none := rfl
      have hlen := fun J => allP_len (ks := ks) (ls := ls) (J := J)
      have hlb : (allP ks ls).length ≤ 8 ^ ls.length := plL_len (cS_le hv) ls.length []
      have h88 : 8 ^ ls.length ≤ 8 ^ 8 := Nat.pow_le_pow_right (by omega) hl8
      rw [show (8 : Nat) ^ 8 = 16777216 by decide] at h88
      generalize allP ks ls = all at *
      generalize stD ks ls pl kind lost = sd at *
      generalize rpAll ks ls pl kind lost = ra at hse ⊢
      generalize rpG ks ls pl kind lost = gl at hse ⊢
      generalize chK ks ls pl kind lost ks.length = cn at hse ⊢
      generalize hy : ks.getD kind.toNat st0 = y at *
      (refine Spec.of_body Try.func42 rfl (by rw [Try.ntmps42]; simp) 0 (by simp) ?_; rw [Try.results42, Try.ntmps42]; simp only [entry, zipArgs, Nat.reduceAdd])
      repeat (first | apply Wp.seq | apply Wp.block | (apply Run.next; (simp only [push_cast, seval, hy] <;> (try simp (disch := omega) only [wI, wU, wC]) <;> exact rfl); (focus ((try simp only [push_cast, seval, hy]) <;> exact sT))) | ((first | apply Run.nil | apply Wp.skip); dsimp only [sQ, tQ, bQ]) | (apply Wp.run; (dsimp only [List.map] <;> exact rfl); exact rfl) | (apply Wp.exit; dsimp only [sQ, tQ, bQ]; simp only [reduceIte]))
      (apply Run.pureP; (simp only [push_cast, seval, hy] <;> (try simp (disch := omega) only [wI, wU, wC]) <;> exact rfl); (exact (Enters.of Try.func63 rfl rfl)); (exact hck); (focus (simp only [push_cast, seval, hy] <;> first | trivial | assumption | (refine ⟨?_, ?_⟩ <;> assumption) | (simp; done))); (try dsimp only [putA, optG]))
      repeat (first | apply Wp.seq | apply Wp.block | (apply Run.next; (simp only [push_cast, seval, hy] <;> (try simp (disch := omega) only [wI, wU, wC]) <;> exact rfl); (focus ((try simp only [push_cast, seval, hy]) <;> exact sT))) | ((first | apply Run.nil | apply Wp.skip); dsimp only [sQ, tQ, bQ]) | (apply Wp.run; (dsimp only [List.map] <;> exact rfl); exact rfl) | (apply Wp.exit; dsimp only [sQ, tQ, bQ]; simp only [reduceIte]) | (apply Run.gtrue; (simp only [push_cast, seval, hy] <;> (try simp (disch := omega) only [wI, wU, wC]) <;> exact rfl); (simp only [push_cast, seval, hy] <;> (try simp (disch := omega) only [wI, wU, wC]) <;> exact rfl)) | (apply Run.gfalse (.bool false); (simp only [push_cast, seval, hy] <;> (try simp (disch := omega) only [wI, wU, wC]) <;> exact rfl); dsimp only [S.put, optG]) | (apply Wp.condT; (simp only [push_cast, seval, hy] <;> (try simp (disch := omega) only [wI, wU, wC]) <;> exact rfl)) | (apply Wp.condF; (simp only [push_cast, seval, hy] <;> (try simp (disch := omega) only [wI, wU, wC]) <;> exact rfl)))
      (apply Run.pureP; (simp only [push_cast, seval, hy] <;> (try simp (disch := omega) only [wI, wU, wC]) <;> exact rfl); (exact (Enters.of Try.func52 rfl rfl)); (exact hw1); (focus (simp only [push_cast, seval, hy] <;> first | trivial | assumption | (refine ⟨?_, ?_⟩ <;> assumption) | (simp; done))); (try dsimp only [putA, optG]))
      repeat (first | apply Wp.seq | apply Wp.block | (apply Run.next; (simp only [push_cast, seval, hy] <;> (try simp (disch := omega) only [wI, wU, wC]) <;> exact rfl); (focus ((try simp only [push_cast, seval, hy]) <;> exact sT))) | ((first | apply Run.nil | apply Wp.skip); dsimp only [sQ, tQ, bQ]) | (apply Wp.run; (dsimp only [List.map] <;> exact rfl); exact rfl) | (apply Wp.exit; dsimp only [sQ, tQ, bQ]; simp only [reduceIte]) | (apply Run.gtrue; (simp only [push_cast, seval, hy] <;> (try simp (disch := omega) only [wI, wU, wC]) <;> exact rfl); (simp only [push_cast, seval, hy] <;> (try simp (disch := omega) only [wI, wU, wC]) <;> exact rfl)) | (apply Run.gfalse (.bool false); (simp only [push_cast, seval, hy] <;> (try simp (disch := omega) only [wI, wU, wC]) <;> exact rfl); dsimp only [S.put, optG]) | (apply Wp.condT; (simp only [push_cast, seval, hy] <;> (try simp (disch := omega) only [wI, wU, wC]) <;> exact rfl)) | (apply Wp.condF; (simp only [push_cast, seval, hy] <;> (try simp (disch := omega) only [wI, wU, wC]) <;> exact rfl)))
      (apply Run.pureP; (simp only [push_cast, seval, hy] <;> (try simp (disch := omega) only [wI, wU, wC]) <;> exact rfl); (exact (Enters.of Try.func52 rfl rfl)); (exact hw2); (focus (simp only [push_cast, seval, hy] <;> first | trivial | assumption | (refine ⟨?_, ?_⟩ <;> assumption) | (simp; done))); (try dsimp only [putA, optG]))
      repeat (first | apply Wp.seq | apply Wp.block | (apply Run.next; (simp only [push_cast, seval, hy] <;> (try simp (disch := omega) only [wI, wU, wC]) <;> exact rfl); (focus ((try simp only [push_cast, seval, hy]) <;> exact sT))) | ((first | apply Run.nil | apply Wp.skip); dsimp only [sQ, tQ, bQ]) | (apply Wp.run; (dsimp only [List.map] <;> exact rfl); exact rfl) | (apply Wp.exit; dsimp only [sQ, tQ, bQ]; simp only [reduceIte]) | (apply Run.gtrue; (simp only [push_cast, seval, hy] <;> (try simp (disch := omega) only [wI, wU, wC]) <;> exact rfl); (simp only [push_cast, seval, hy] <;> (try simp (disch := omega) only [wI, wU, wC]) <;> exact rfl)) | (apply Run.gfalse (.bool false); (simp only [push_cast, seval, hy] <;> (try simp (disch := omega) only [wI, wU, wC]) <;> exact rfl); dsimp only [S.put, optG]) | (apply Wp.condT; (simp only [push_cast, seval, hy] <;> (try simp (disch := omega) only [wI, wU, wC]) <;> exact rfl)) | (apply Wp.condF; (simp only [push_cast, seval, hy] <;> (try simp (disch := omega) only [wI, wU, wC]) <;> exact rfl)))
      (apply Run.pureFP; (simp only [push_cast, seval, hy] <;> (try simp (disch := omega) only [wI, wU, wC]) <;> exact rfl); (exact (Enters.of Try.func76 rfl rfl)); (exact hpa); (focus (simp only [push_cast, seval, hy] <;> first | trivial | assumption | (refine ⟨?_, ?_⟩ <;> assumption) | (simp; done))); (try dsimp only [putA, optG]))
      repeat (first | apply Wp.seq | apply Wp.block | (apply Run.next; (simp only [push_cast, seval, hy] <;> (try simp (disch := omega) only [wI, wU, wC]) <;> exact rfl); (focus ((try simp only [push_cast, seval, hy]) <;> exact sT))) | ((first | apply Run.nil | apply Wp.skip); dsimp only [sQ, tQ, bQ]) | (apply Wp.run; (dsimp only [List.map] <;> exact rfl); exact rfl) | (apply Wp.exit; dsimp only [sQ, tQ, bQ]; simp only [reduceIte]) | (apply Run.gtrue; (simp only [push_cast, seval, hy] <;> (try simp (disch := omega) only [wI, wU, wC]) <;> exact rfl); (simp only [push_cast, seval, hy] <;> (try simp (disch := omega) only [wI, wU, wC]) <;> exact rfl)) | (apply Run.gfalse (.bool false); (simp only [push_cast, seval, hy] <;> (try simp (disch := omega) only [wI, wU, wC]) <;> exact rfl); dsimp only [S.put, optG]) | (apply Wp.condT; (simp only [push_cast, seval, hy] <;> (try simp (disch := omega) only [wI, wU, wC]) <;> exact rfl)) | (apply Wp.condF; (simp only [push_cast, seval, hy] <;> (try simp (disch := omega) only [wI, wU, wC]) <;> exact rfl)))
      refine Wp.loop (fun (q : Nat × Int) => { t := [(1, .ints pl), (2, .int kind), (3, .int lost), (4, .optr 0 0 0 0), (12, .lst 1 (all.map AV.ints)), (13, .int q.2), (14, .int q.1)], m := [⟨0, .row 2 [storA ks ls]⟩], n := 89 }) (fun q => q.1 ≤ all.length ∧ ((q.2 = -1 ∧ sd q.1 = none) ∨ ∃ n : Nat, n < q.1 ∧ q.2 = (n : Int) ∧ sd q.1 = some (all.getD n [], dfI (pF pl) (all.getD n [])))) (fun q => all.length - q.1) (0, -1) ?_ ?_ ?_
      · (refine Le.of ?_ ?_ rfl rfl <;> (try simp only [push_cast, seval, hy]) <;> (try (with_reducible rfl)))
      · exact ⟨by simp, .inl ⟨rfl, hs0⟩⟩
      · rintro ⟨i, b⟩ ⟨hi1, hb⟩
        simp only at hi1 hb
        have hssi := hss i
        repeat (first | apply Wp.seq | apply Wp.block | (apply Run.next; (simp only [push_cast, seval, hy] <;> (try simp (disch := omega) only [wI, wU, wC]) <;> exact rfl); (focus ((try simp only [push_cast, seval, hy]) <;> exact sT))) | ((first | apply Run.nil | apply Wp.skip); dsimp only [sQ, tQ, bQ]) | (apply Wp.run; (dsimp only [List.map] <;> exact rfl); exact rfl) | (apply Wp.exit; dsimp only [sQ, tQ, bQ]; simp only [reduceIte]))
        (apply Wp.cond; (simp only [push_cast, seval, hy] <;> (try simp (disch := omega) only [wI, wU, wC]) <;> exact rfl))
        · intro hc
          simp only [decide_eq_true_eq, Int.ofNat_lt] at hc
          specialize hssi hc
          have hgl : ∀ n, n < all.length → (∀ d, (all.map AV.ints).getD n d = .ints (all.getD n [])) ∧ (all.getD n []).length = ls.length := fun n hn => ⟨fun d => by simp [List.getD_eq_getElem?_getD, hn], hlen _ (by simp [hn])⟩
          have hbn : b.toNat < all.length := by
            rcases hb with ⟨h, _⟩ | ⟨n, h, h', _⟩ <;> omega
          obtain ⟨gi1, gi2⟩ := hgl i hc
          obtain ⟨gb1, gb2⟩ := hgl b.toNat hbn
          have hbe : ∀ n : Nat, b = (n : Int) → all.getD b.toNat [] = all.getD n [] := fun n h => by rw [h, Int.toNat_natCast]
          have hU := Uses_pure ks ls (all.getD i []) kind lost (by omega) hl
          have hD1 := Differ_pure (all.getD i []) pl (by omega) hp
          have hD2 := Differ_pure (all.getD b.toNat []) pl (by omega) hp
          generalize hJ : all.getD i [] = J at gi1 gi2 hU hD1 hssi
          generalize hB : all.getD b.toNat [] = B at gb1 gb2 hD2 hbe
          generalize hdJ : dfI (pF pl) J = dJ at hD1 hssi
          generalize hdB : dfI (pF pl) B = dB at hD2
          cases hu : usB ls J kind lost with
          | true =>
            rw [hu] at hU hssi
            rw [if_pos rfl] at hssi
            repeat (first | apply Wp.seq | apply Wp.block | (apply Run.next; (simp only [push_cast, seval, hy, gi1, gb1] <;> (try simp (disch := omega) only [wI, wU, wC]) <;> exact rfl); (focus ((try simp only [push_cast, seval, hy, gi1, gb1]) <;> exact sT))) | ((first | apply Run.nil | apply Wp.skip); dsimp only [sQ, tQ, bQ]) | (apply Wp.run; (dsimp only [List.map] <;> exact rfl); exact rfl) | (apply Wp.exit; dsimp only [sQ, tQ, bQ]; simp only [reduceIte]))
            (apply Wp.runD 28 mixed; (dsimp only [List.map] <;> exact rfl); exact rfl; kernel_rfl; (dsimp only [List.take] <;> exact rfl); (dsimp only [List.drop] <;> exact rfl); (((repeat (apply Abn.next; (simp only [push_cast, seval, hy, gi1, gb1] <;> (try simp (disch := omega) only [wI, wU, wC]) <;> exact rfl); (focus ((try simp only [push_cast, seval, hy, gi1, gb1]) <;> exact sT)))); (apply Abn.pureP; (simp only [push_cast, seval, hy, gi1, gb1] <;> (try simp (disch := omega) only [wI, wU, wC]) <;> exact rfl); (exact (Enters.of Try.func77 rfl rfl)); (exact hU); (focus (simp only [push_cast, seval, hy, gi1, gb1] <;> first | trivial | assumption | (refine ⟨?_, ?_⟩ <;> assumption) | (simp; done))); (try dsimp only [putA, optG])); (repeat (apply Abn.next; (simp only [push_cast, seval, hy, gi1, gb1] <;> (try simp (disch := omega) only [wI, wU, wC]) <;> exact rfl); (focus ((try simp only [push_cast, seval, hy, gi1, gb1]) <;> exact sT)))); (apply Abn.pureP; (simp only [push_cast, seval, hy, gi1, gb1] <;> (try simp (disch := omega) only [wI, wU, wC]) <;> exact rfl); (exact (Enters.of Try.func44 rfl rfl)); (exact hD1); (focus (simp only [push_cast, seval, hy, gi1, gb1] <;> first | trivial | assumption | (refine ⟨?_, ?_⟩ <;> assumption) | (simp; done))); (try dsimp only [putA, optG])); (repeat (apply Abn.next; (simp only [push_cast, seval, hy, gi1, gb1] <;> (try simp (disch := omega) only [wI, wU, wC]) <;> exact rfl); (focus ((try simp only [push_cast, seval, hy, gi1, gb1]) <;> exact sT)))); (apply Abn.pureP; (simp only [push_cast, seval, hy, gi1, gb1] <;> (try simp (disch := omega) only [wI, wU, wC]) <;> exact rfl); (exact (Enters.of Try.func44 rfl rfl)); (exact hD2); (focus (simp only [push_cast, seval, hy, gi1, gb1] <;> first | trivial | assumption | (refine ⟨?_, ?_⟩ <;> assumption) | (simp; done))); (try dsimp only [putA, optG])); (repeat (apply Abn.next; (simp only [push_cast, seval, hy, gi1, gb1] <;> (try simp (disch := omega) only [wI, wU, wC]) <;> exact rfl); (focus ((try simp only [push_cast, seval, hy, gi1, gb1]) <;> exact sT))))); exact Abn.nil))
            repeat (first | apply Wp.seq | apply Wp.block | (apply Run.next; (simp only [push_cast, seval, hy, gi1, gb1] <;> (try simp (disch := omega) only [wI, wU, wC]) <;> exact rfl); (focus ((try simp only [push_cast, seval, hy, gi1, gb1]) <;> exact sT))) | ((first | apply Run.nil | apply Wp.skip); dsimp only [sQ, tQ, bQ]) | (apply Wp.run; (dsimp only [List.map] <;> exact rfl); exact rfl) | (apply Wp.exit; dsimp only [sQ, tQ, bQ]; simp only [reduceIte]) | (apply Run.gtrue; (simp only [push_cast, seval, hy, gi1, gb1] <;> (try simp (disch := omega) only [wI, wU, wC]) <;> exact rfl); (simp only [push_cast, seval, hy, gi1, gb1] <;> (try simp (disch := omega) only [wI, wU, wC]) <;> exact rfl)) | (apply Run.gfalse (.bool false); (simp only [push_cast, seval, hy, gi1, gb1] <;> (try simp (disch := omega) only [wI, wU, wC]) <;> exact rfl); dsimp only [S.put, optG]) | (apply Wp.condT; (simp only [push_cast, seval, hy, gi1, gb1] <;> (try simp (disch := omega) only [wI, wU, wC]) <;> exact rfl)) | (apply Wp.condF; (simp only [push_cast, seval, hy, gi1, gb1] <;> (try simp (disch := omega) only [wI, wU, wC]) <;> exact rfl)))
            refine ⟨(i + 1, b), ?_, ⟨by simp only; omega, ?_⟩, by simp only; omega⟩
            · (refine Le.of ?_ ?_ rfl rfl <;> (try simp only [push_cast, seval, hy, gi1, gb1]) <;> (try (with_reducible rfl)))
            · simp only
              rw [hssi]
              rcases hb with ⟨h, h'⟩ | ⟨n, h, h', h''⟩
              · exact .inl ⟨h, h'⟩
              · exact .inr ⟨n, by omega, h', h''⟩
          | false =>
            rw [hu] at hU hssi
            rw [if_neg (by simp)] at hssi
            repeat (first | apply Wp.seq | apply Wp.block | (apply Run.next; (simp only [push_cast, seval, hy, gi1, gb1] <;> (try simp (disch := omega) only [wI, wU, wC]) <;> exact rfl); (focus ((try simp only [push_cast, seval, hy, gi1, gb1]) <;> exact sT))) | ((first | apply Run.nil | apply Wp.skip); dsimp only [sQ, tQ, bQ]) | (apply Wp.run; (dsimp only [List.map] <;> exact rfl); exact rfl) | (apply Wp.exit; dsimp only [sQ, tQ, bQ]; simp only [reduceIte]))
            (apply Wp.runD 28 mixed; (dsimp only [List.map] <;> exact rfl); exact rfl; kernel_rfl; (dsimp only [List.take] <;> exact rfl); (dsimp only [List.drop] <;> exact rfl); (((repeat (apply Abn.next; (simp only [push_cast, seval, hy, gi1, gb1] <;> (try simp (disch := omega) only [wI, wU, wC]) <;> exact rfl); (focus ((try simp only [push_cast, seval, hy, gi1, gb1]) <;> exact sT)))); (apply Abn.pureP; (simp only [push_cast, seval, hy, gi1, gb1] <;> (try simp (disch := omega) only [wI, wU, wC]) <;> exact rfl); (exact (Enters.of Try.func77 rfl rfl)); (exact hU); (focus (simp only [push_cast, seval, hy, gi1, gb1] <;> first | trivial | assumption | (refine ⟨?_, ?_⟩ <;> assumption) | (simp; done))); (try dsimp only [putA, optG])); (repeat (apply Abn.next; (simp only [push_cast, seval, hy, gi1, gb1] <;> (try simp (disch := omega) only [wI, wU, wC]) <;> exact rfl); (focus ((try simp only [push_cast, seval, hy, gi1, gb1]) <;> exact sT)))); (apply Abn.pureP; (simp only [push_cast, seval, hy, gi1, gb1] <;> (try simp (disch := omega) only [wI, wU, wC]) <;> exact rfl); (exact (Enters.of Try.func44 rfl rfl)); (exact hD1); (focus (simp only [push_cast, seval, hy, gi1, gb1] <;> first | trivial | assumption | (refine ⟨?_, ?_⟩ <;> assumption) | (simp; done))); (try dsimp only [putA, optG])); (repeat (apply Abn.next; (simp only [push_cast, seval, hy, gi1, gb1] <;> (try simp (disch := omega) only [wI, wU, wC]) <;> exact rfl); (focus ((try simp only [push_cast, seval, hy, gi1, gb1]) <;> exact sT)))); (apply Abn.pureP; (simp only [push_cast, seval, hy, gi1, gb1] <;> (try simp (disch := omega) only [wI, wU, wC]) <;> exact rfl); (exact (Enters.of Try.func44 rfl rfl)); (exact hD2); (focus (simp only [push_cast, seval, hy, gi1, gb1] <;> first | trivial | assumption | (refine ⟨?_, ?_⟩ <;> assumption) | (simp; done))); (try dsimp only [putA, optG])); (repeat (apply Abn.next; (simp only [push_cast, seval, hy, gi1, gb1] <;> (try simp (disch := omega) only [wI, wU, wC]) <;> exact rfl); (focus ((try simp only [push_cast, seval, hy, gi1, gb1]) <;> exact sT))))); exact Abn.nil))
            repeat (first | apply Wp.seq | apply Wp.block | (apply Run.next; (simp only [push_cast, seval, hy, gi1, gb1] <;> (try simp (disch := omega) only [wI, wU, wC]) <;> exact rfl); (focus ((try simp only [push_cast, seval, hy, gi1, gb1]) <;> exact sT))) | ((first | apply Run.nil | apply Wp.skip); dsimp only [sQ, tQ, bQ]) | (apply Wp.run; (dsimp only [List.map] <;> exact rfl); exact rfl) | (apply Wp.exit; dsimp only [sQ, tQ, bQ]; simp only [reduceIte]))
            (apply Wp.cond; (simp only [push_cast, seval, hy, gi1, gb1] <;> (try simp (disch := omega) only [wI, wU, wC]) <;> exact rfl))
            · intro h2
              simp only [Bool.true_and, Bool.or_eq_true, decide_eq_true_eq] at h2
              repeat (first | apply Wp.seq | apply Wp.block | (apply Run.next; (simp only [push_cast, seval, hy, gi1, gb1] <;> (try simp (disch := omega) only [wI, wU, wC]) <;> exact rfl); (focus ((try simp only [push_cast, seval, hy, gi1, gb1]) <;> exact sT))) | ((first | apply Run.nil | apply Wp.skip); dsimp only [sQ, tQ, bQ]) | (apply Wp.run; (dsimp only [List.map] <;> exact rfl); exact rfl) | (apply Wp.exit; dsimp only [sQ, tQ, bQ]; simp only [reduceIte]))
              refine ⟨(i + 1, (i : Int)), ?_, ⟨by simp only; omega, .inr ⟨i, by simp only; omega, rfl, ?_⟩⟩, by simp only; omega⟩
              · (refine Le.of ?_ ?_ rfl rfl <;> (try simp only [push_cast, seval, hy, gi1, gb1]) <;> (try (with_reducible rfl)))
              · simp only
                rw [hssi, hJ, hdJ]
                rcases hb with ⟨h, h'⟩ | ⟨n, h, h', h''⟩
                · rw [h']; rfl
                · rw [h'', ← hbe n h', hdB]
                  show (if dJ < dB then some (J, dJ) else some (B, dB)) = _
                  rw [if_pos (by omega)]
            · intro h2
              simp only [Bool.true_and, Bool.or_eq_false_iff, decide_eq_false_iff_not] at h2
              repeat (first | apply Wp.seq | apply Wp.block | (apply Run.next; (simp only [push_cast, seval, hy, gi1, gb1] <;> (try simp (disch := omega) only [wI, wU, wC]) <;> exact rfl); (focus ((try simp only [push_cast, seval, hy, gi1, gb1]) <;> exact sT))) | ((first | apply Run.nil | apply Wp.skip); dsimp only [sQ, tQ, bQ]) | (apply Wp.run; (dsimp only [List.map] <;> exact rfl); exact rfl) | (apply Wp.exit; dsimp only [sQ, tQ, bQ]; simp only [reduceIte]))
              refine ⟨(i + 1, b), ?_, ⟨by simp only; omega, ?_⟩, by simp only; omega⟩
              · (refine Le.of ?_ ?_ rfl rfl <;> (try simp only [push_cast, seval, hy, gi1, gb1]) <;> (try (with_reducible rfl)))
              · simp only
                rw [hssi]
                rcases hb with ⟨h, h'⟩ | ⟨n, h, h', h''⟩
                · omega
                · refine .inr ⟨n, by omega, h', ?_⟩
                  rw [h'', ← hbe n h', hdB]
                  show (if dJ < dB then some (J, dJ) else some (B, dB)) = _
                  rw [if_neg (by omega)]
        · intro hc
          simp only [decide_eq_false_iff_not, Int.ofNat_lt] at hc
          obtain rfl : i = all.length := by omega
          rcases hb with ⟨rfl, h'⟩ | ⟨n, h, rfl, h''⟩
          · rw [h'] at hse
            have hra : ra = false := by cases ra with
              | true => simp at hse
              | false => rfl
            subst hra
            repeat (first | apply Wp.seq | apply Wp.block | (apply Run.next; (simp only [push_cast, seval, hy] <;> (try simp (disch := omega) only [wI, wU, wC]) <;> exact rfl); (focus ((try simp only [push_cast, seval, hy]) <;> exact sT))) | ((first | apply Run.nil | apply Wp.skip); dsimp only [sQ, tQ, bQ]) | (apply Wp.run; (dsimp only [List.map] <;> exact rfl); exact rfl) | (apply Wp.exit; dsimp only [sQ, tQ, bQ]; simp only [reduceIte]) | (apply Run.gtrue; (simp only [push_cast, seval, hy] <;> (try simp (disch := omega) only [wI, wU, wC]) <;> exact rfl); (simp only [push_cast, seval, hy] <;> (try simp (disch := omega) only [wI, wU, wC]) <;> exact rfl)) | (apply Run.gfalse (.bool false); (simp only [push_cast, seval, hy] <;> (try simp (disch := omega) only [wI, wU, wC]) <;> exact rfl); dsimp only [S.put, optG]) | (apply Wp.condT; (simp only [push_cast, seval, hy] <;> (try simp (disch := omega) only [wI, wU, wC]) <;> exact rfl)) | (apply Wp.condF; (simp only [push_cast, seval, hy] <;> (try simp (disch := omega) only [wI, wU, wC]) <;> exact rfl)))
            (apply Wp.ret; (try dsimp only [sQ, tQ, bQ]); apply leave0; exact rfl; (simp only [push_cast, seval, hy] <;> (try simp (disch := omega) only [wI, wU, wC]) <;> exact rfl); all_goals (try simp only [push_cast, seval, hy]); (try rfl))
          · rw [h''] at hse
            have hra : ra = true := by cases ra with
              | true => rfl
              | false => simp at hse
            subst hra
            simp only [if_true, Option.some.injEq, Prod.mk.injEq] at hse
            obtain ⟨e1, e2⟩ := hse
            have hgl : (∀ d, (all.map AV.ints).getD n d = .ints (all.getD n [])) ∧ (all.getD n []).length = ls.length := ⟨fun d => by simp [List.getD_eq_getElem?_getD, h], hlen _ (by simp [h])⟩
            obtain ⟨gi1, gi2⟩ := hgl
            have hD1 := Differ_pure (all.getD n []) pl (by omega) hp
            rw [e2] at hD1
            rw [e1] at gi1 hD1
            have e3 : decide ((n : Int) < 0) = false := decide_eq_false (by omega)
            repeat (first | apply Wp.seq | apply Wp.block | (apply Run.next; (simp only [push_cast, seval, hy, gi1, e3] <;> (try simp (disch := omega) only [wI, wU, wC]) <;> exact rfl); (focus ((try simp only [push_cast, seval, hy, gi1, e3]) <;> exact sT))) | ((first | apply Run.nil | apply Wp.skip); dsimp only [sQ, tQ, bQ]) | (apply Wp.run; (dsimp only [List.map] <;> exact rfl); exact rfl) | (apply Wp.exit; dsimp only [sQ, tQ, bQ]; simp only [reduceIte]) | (apply Run.gtrue; (simp only [push_cast, seval, hy, gi1, e3] <;> (try simp (disch := omega) only [wI, wU, wC]) <;> exact rfl); (simp only [push_cast, seval, hy, gi1, e3] <;> (try simp (disch := omega) only [wI, wU, wC]) <;> exact rfl)) | (apply Run.gfalse (.bool false); (simp only [push_cast, seval, hy, gi1, e3] <;> (try simp (disch := omega) only [wI, wU, wC]) <;> exact rfl); dsimp only [S.put, optG]) | (apply Wp.condT; (simp only [push_cast, seval, hy, gi1, e3] <;> (try simp (disch := omega) only [wI, wU, wC]) <;> exact rfl)) | (apply Wp.condF; (simp only [push_cast, seval, hy, gi1, e3] <;> (try simp (disch := omega) only [wI, wU, wC]) <;> exact rfl)))
            (apply Wp.runD 13 mixed; (dsimp only [List.map] <;> exact rfl); exact rfl; kernel_rfl; (dsimp only [List.take] <;> exact rfl); (dsimp only [List.drop] <;> exact rfl); (((repeat (apply Abn.next; (simp only [push_cast, seval, hy, gi1, e3] <;> (try simp (disch := omega) only [wI, wU, wC]) <;> exact rfl); (focus ((try simp only [push_cast, seval, hy, gi1, e3]) <;> exact sT)))); (apply Abn.pureP; (simp only [push_cast, seval, hy, gi1, e3] <;> (try simp (disch := omega) only [wI, wU, wC]) <;> exact rfl); (exact (Enters.of Try.func44 rfl rfl)); (exact hD1); (focus (simp only [push_cast, seval, hy, gi1, e3] <;> first | trivial | assumption | (refine ⟨?_, ?_⟩ <;> assumption) | (simp; done))); (try dsimp only [putA, optG])); (repeat (apply Abn.next; (simp only [push_cast, seval, hy, gi1, e3] <;> (try simp (disch := omega) only [wI, wU, wC]) <;> exact rfl); (focus ((try simp only [push_cast, seval, hy, gi1, e3]) <;> exact sT))))); exact Abn.nil))
            repeat (first | apply Wp.seq | apply Wp.block | (apply Run.next; (simp only [push_cast, seval, hy, gi1, e3] <;> (try simp (disch := omega) only [wI, wU, wC]) <;> exact rfl); (focus ((try simp only [push_cast, seval, hy, gi1, e3]) <;> exact sT))) | ((first | apply Run.nil | apply Wp.skip); dsimp only [sQ, tQ, bQ]) | (apply Wp.run; (dsimp only [List.map] <;> exact rfl); exact rfl) | (apply Wp.exit; dsimp only [sQ, tQ, bQ]; simp only [reduceIte]) | (apply Run.gtrue; (simp only [push_cast, seval, hy, gi1, e3] <;> (try simp (disch := omega) only [wI, wU, wC]) <;> exact rfl); (simp only [push_cast, seval, hy, gi1, e3] <;> (try simp (disch := omega) only [wI, wU, wC]) <;> exact rfl)) | (apply Run.gfalse (.bool false); (simp only [push_cast, seval, hy, gi1, e3] <;> (try simp (disch := omega) only [wI, wU, wC]) <;> exact rfl); dsimp only [S.put, optG]) | (apply Wp.condT; (simp only [push_cast, seval, hy, gi1, e3] <;> (try simp (disch := omega) only [wI, wU, wC]) <;> exact rfl)) | (apply Wp.condF; (simp only [push_cast, seval, hy, gi1, e3] <;> (try simp (disch := omega) only [wI, wU, wC]) <;> exact rfl)))
            (apply Wp.ret; (try dsimp only [sQ, tQ, bQ]); apply leave0; exact rfl; (simp only [push_cast, seval, hy, gi1, e3] <;> (try simp (disch := omega) only [wI, wU, wC]) <;> exact rfl); all_goals (try simp only [push_cast, seval, hy, gi1, e3]); (try rfl))
    · rw [if_pos rfl, if_neg h2, if_neg (fun h => h2 h.2.1), if_neg (fun h => h2 h.2.1)]
      by_cases h3 : wi kind 0 ((ks.length : Int) - 1) = true
      · have hkk := wi_iff.1 h3
        have hst := hv.st kind.toNat (by omega)
        have hw2 := rwithin_pure lost 0 ((ks.getD kind.toNat st0).items - 1)
        have h4 : wi lost 0 ((ks.getD kind.toNat st0).items - 1) = false := by
          rw [← Bool.not_eq_true]; intro h; exact h2 (by unfold rkB; rw [h3, h]; rfl)
        rw [h3] at hw1
        rw [h4] at hw2
        generalize hy : ks.getD kind.toNat st0 = y at *
        (refine Spec.of_body Try.func42 rfl (by rw [Try.ntmps42]; simp) 0 (by simp) ?_; rw [Try.results42, Try.ntmps42]; simp only [entry, zipArgs, Nat.reduceAdd])
        repeat (first | apply Wp.seq | apply Wp.block | (apply Run.next; (simp only [push_cast, seval, hy] <;> (try simp (disch := omega) only [wI, wU, wC]) <;> exact rfl); (focus ((try simp only [push_cast, seval, hy]) <;> exact sT))) | ((first | apply Run.nil | apply Wp.skip); dsimp only [sQ, tQ, bQ]) | (apply Wp.run; (dsimp only [List.map] <;> exact rfl); exact rfl) | (apply Wp.exit; dsimp only [sQ, tQ, bQ]; simp only [reduceIte]))
        (apply Run.pureP; (simp only [push_cast, seval, hy] <;> (try simp (disch := omega) only [wI, wU, wC]) <;> exact rfl); (exact (Enters.of Try.func63 rfl rfl)); (exact hck); (focus (simp only [push_cast, seval, hy] <;> first | trivial | assumption | (refine ⟨?_, ?_⟩ <;> assumption) | (simp; done))); (try dsimp only [putA, optG]))
        repeat (first | apply Wp.seq | apply Wp.block | (apply Run.next; (simp only [push_cast, seval, hy] <;> (try simp (disch := omega) only [wI, wU, wC]) <;> exact rfl); (focus ((try simp only [push_cast, seval, hy]) <;> exact sT))) | ((first | apply Run.nil | apply Wp.skip); dsimp only [sQ, tQ, bQ]) | (apply Wp.run; (dsimp only [List.map] <;> exact rfl); exact rfl) | (apply Wp.exit; dsimp only [sQ, tQ, bQ]; simp only [reduceIte]) | (apply Run.gtrue; (simp only [push_cast, seval, hy] <;> (try simp (disch := omega) only [wI, wU, wC]) <;> exact rfl); (simp only [push_cast, seval, hy] <;> (try simp (disch := omega) only [wI, wU, wC]) <;> exact rfl)) | (apply Run.gfalse (.bool false); (simp only [push_cast, seval, hy] <;> (try simp (disch := omega) only [wI, wU, wC]) <;> exact rfl); dsimp only [S.put, optG]) | (apply Wp.condT; (simp only [push_cast, seval, hy] <;> (try simp (disch := omega) only [wI, wU, wC]) <;> exact rfl)) | (apply Wp.condF; (simp only [push_cast, seval, hy] <;> (try simp (disch := omega) only [wI, wU, wC]) <;> exact rfl)))
        (apply Run.pureP; (simp only [push_cast, seval, hy] <;> (try simp (disch := omega) only [wI, wU, wC]) <;> exact rfl); (exact (Enters.of Try.func52 rfl rfl)); (exact hw1); (focus (simp only [push_cast, seval, hy] <;> first | trivial | assumption | (refine ⟨?_, ?_⟩ <;> assumption) | (simp; done))); (try dsimp only [putA, optG]))
        repeat (first | apply Wp.seq | apply Wp.block | (apply Run.next; (simp only [push_cast, seval, hy] <;> (try simp (disch := omega) only [wI, wU, wC]) <;> exact rfl); (focus ((try simp only [push_cast, seval, hy]) <;> exact sT))) | ((first | apply Run.nil | apply Wp.skip); dsimp only [sQ, tQ, bQ]) | (apply Wp.run; (dsimp only [List.map] <;> exact rfl); exact rfl) | (apply Wp.exit; dsimp only [sQ, tQ, bQ]; simp only [reduceIte]) | (apply Run.gtrue; (simp only [push_cast, seval, hy] <;> (try simp (disch := omega) only [wI, wU, wC]) <;> exact rfl); (simp only [push_cast, seval, hy] <;> (try simp (disch := omega) only [wI, wU, wC]) <;> exact rfl)) | (apply Run.gfalse (.bool false); (simp only [push_cast, seval, hy] <;> (try simp (disch := omega) only [wI, wU, wC]) <;> exact rfl); dsimp only [S.put, optG]) | (apply Wp.condT; (simp only [push_cast, seval, hy] <;> (try simp (disch := omega) only [wI, wU, wC]) <;> exact rfl)) | (apply Wp.condF; (simp only [push_cast, seval, hy] <;> (try simp (disch := omega) only [wI, wU, wC]) <;> exact rfl)))
        (apply Run.pureP; (simp only [push_cast, seval, hy] <;> (try simp (disch := omega) only [wI, wU, wC]) <;> exact rfl); (exact (Enters.of Try.func52 rfl rfl)); (exact hw2); (focus (simp only [push_cast, seval, hy] <;> first | trivial | assumption | (refine ⟨?_, ?_⟩ <;> assumption) | (simp; done))); (try dsimp only [putA, optG]))
        repeat (first | apply Wp.seq | apply Wp.block | (apply Run.next; (simp only [push_cast, seval, hy] <;> (try simp (disch := omega) only [wI, wU, wC]) <;> exact rfl); (focus ((try simp only [push_cast, seval, hy]) <;> exact sT))) | ((first | apply Run.nil | apply Wp.skip); dsimp only [sQ, tQ, bQ]) | (apply Wp.run; (dsimp only [List.map] <;> exact rfl); exact rfl) | (apply Wp.exit; dsimp only [sQ, tQ, bQ]; simp only [reduceIte]) | (apply Run.gtrue; (simp only [push_cast, seval, hy] <;> (try simp (disch := omega) only [wI, wU, wC]) <;> exact rfl); (simp only [push_cast, seval, hy] <;> (try simp (disch := omega) only [wI, wU, wC]) <;> exact rfl)) | (apply Run.gfalse (.bool false); (simp only [push_cast, seval, hy] <;> (try simp (disch := omega) only [wI, wU, wC]) <;> exact rfl); dsimp only [S.put, optG]) | (apply Wp.condT; (simp only [push_cast, seval, hy] <;> (try simp (disch := omega) only [wI, wU, wC]) <;> exact rfl)) | (apply Wp.condF; (simp only [push_cast, seval, hy] <;> (try simp (disch := omega) only [wI, wU, wC]) <;> exact rfl)))
        (apply Wp.ret; (try dsimp only [sQ, tQ, bQ]); apply leave0; exact rfl; (simp only [push_cast, seval, hy] <;> (try simp (disch := omega) only [wI, wU, wC]) <;> exact rfl); all_goals (try simp only [push_cast, seval, hy]); (try rfl))
      · rw [Bool.not_eq_true] at h3
        rw [h3] at hw1
        (refine Spec.of_body Try.func42 rfl (by rw [Try.ntmps42]; simp) 0 (by simp) ?_; rw [Try.results42, Try.ntmps42]; simp only [entry, zipArgs, Nat.reduceAdd])
        repeat (first | apply Wp.seq | apply Wp.block | (apply Run.next; (simp only [push_cast, seval] <;> (try simp (disch := omega) only [wI, wU, wC]) <;> exact rfl); (focus ((try simp only [push_cast, seval]) <;> exact sT))) | ((first | apply Run.nil | apply Wp.skip); dsimp only [sQ, tQ, bQ]) | (apply Wp.run; (dsimp only [List.map] <;> exact rfl); exact rfl) | (apply Wp.exit; dsimp only [sQ, tQ, bQ]; simp only [reduceIte]))
        (apply Run.pureP; (simp only [push_cast, seval] <;> (try simp (disch := omega) only [wI, wU, wC]) <;> exact rfl); (exact (Enters.of Try.func63 rfl rfl)); (exact hck); (focus (simp only [push_cast, seval] <;> first | trivial | assumption | (refine ⟨?_, ?_⟩ <;> assumption) | (simp; done))); (try dsimp only [putA, optG]))
        repeat (first | apply Wp.seq | apply Wp.block | (apply Run.next; (simp only [push_cast, seval] <;> (try simp (disch := omega) only [wI, wU, wC]) <;> exact rfl); (focus ((try simp only [push_cast, seval]) <;> exact sT))) | ((first | apply Run.nil | apply Wp.skip); dsimp only [sQ, tQ, bQ]) | (apply Wp.run; (dsimp only [List.map] <;> exact rfl); exact rfl) | (apply Wp.exit; dsimp only [sQ, tQ, bQ]; simp only [reduceIte]) | (apply Run.gtrue; (simp only [push_cast, seval] <;> (try simp (disch := omega) only [wI, wU, wC]) <;> exact rfl); (simp only [push_cast, seval] <;> (try simp (disch := omega) only [wI, wU, wC]) <;> exact rfl)) | (apply Run.gfalse (.bool false); (simp only [push_cast, seval] <;> (try simp (disch := omega) only [wI, wU, wC]) <;> exact rfl); dsimp only [S.put, optG]) | (apply Wp.condT; (simp only [push_cast, seval] <;> (try simp (disch := omega) only [wI, wU, wC]) <;> exact rfl)) | (apply Wp.condF; (simp only [push_cast, seval] <;> (try simp (disch := omega) only [wI, wU, wC]) <;> exact rfl)))
        (apply Run.pureP; (simp only [push_cast, seval] <;> (try simp (disch := omega) only [wI, wU, wC]) <;> exact rfl); (exact (Enters.of Try.func52 rfl rfl)); (exact hw1); (focus (simp only [push_cast, seval] <;> first | trivial | assumption | (refine ⟨?_, ?_⟩ <;> assumption) | (simp; done))); (try dsimp only [putA, optG]))
        repeat (first | apply Wp.seq | apply Wp.block | (apply Run.next; (simp only [push_cast, seval] <;> (try simp (disch := omega) only [wI, wU, wC]) <;> exact rfl); (focus ((try simp only [push_cast, seval]) <;> exact sT))) | ((first | apply Run.nil | apply Wp.skip); dsimp only [sQ, tQ, bQ]) | (apply Wp.run; (dsimp only [List.map] <;> exact rfl); exact rfl) | (apply Wp.exit; dsimp only [sQ, tQ, bQ]; simp only [reduceIte]) | (apply Run.gtrue; (simp only [push_cast, seval] <;> (try simp (disch := omega) only [wI, wU, wC]) <;> exact rfl); (simp only [push_cast, seval] <;> (try simp (disch := omega) only [wI, wU, wC]) <;> exact rfl)) | (apply Run.gfalse (.bool false); (simp only [push_cast, seval] <;> (try simp (disch := omega) only [wI, wU, wC]) <;> exact rfl); dsimp only [S.put, optG]) | (apply Wp.condT; (simp only [push_cast, seval] <;> (try simp (disch := omega) only [wI, wU, wC]) <;> exact rfl)) | (apply Wp.condF; (simp only [push_cast, seval] <;> (try simp (disch := omega) only [wI, wU, wC]) <;> exact rfl)))
        (apply Wp.ret; (try dsimp only [sQ, tQ, bQ]); apply leave0; exact rfl; (simp only [push_cast, seval] <;> (try simp (disch := omega) only [wI, wU, wC]) <;> exact rfl); all_goals (try simp only [push_cast, seval]); (try rfl))
  · rw [if_neg (fun h => h1 h.1), if_neg (fun h => h1 h.1), if_neg h1]
    generalize chk2E ks ls pl = e at hck h1
    have he : decide (e = 0) = false := decide_eq_false h1
    (refine Spec.of_body Try.func42 rfl (by rw [Try.ntmps42]; simp) 0 (by simp) ?_; rw [Try.results42, Try.ntmps42]; simp only [entry, zipArgs, Nat.reduceAdd])
    repeat (first | apply Wp.seq | apply Wp.block | (apply Run.next; (simp only [push_cast, seval, he] <;> (try simp (disch := omega) only [wI, wU, wC]) <;> exact rfl); (focus ((try simp only [push_cast, seval, he]) <;> exact sT))) | ((first | apply Run.nil | apply Wp.skip); dsimp only [sQ, tQ, bQ]) | (apply Wp.run; (dsimp only [List.map] <;> exact rfl); exact rfl) | (apply Wp.exit; dsimp only [sQ, tQ, bQ]; simp only [reduceIte]))
    (apply Run.pureP; (simp only [push_cast, seval, he] <;> (try simp (disch := omega) only [wI, wU, wC]) <;> exact rfl); (exact (Enters.of Try.func63 rfl rfl)); (exact hck); (focus (simp only [push_cast, seval, he] <;> first | trivial | assumption | (refine ⟨?_, ?_⟩ <;> assumption) | (simp; done))); (try dsimp only [putA, optG]))
    repeat (first | apply Wp.seq | apply Wp.block | (apply Run.next; (simp only [push_cast, seval, he] <;> (try simp (disch := omega) only [wI, wU, wC]) <;> exact rfl); (focus ((try simp only [push_cast, seval, he]) <;> exact sT))) | ((first | apply Run.nil | apply Wp.skip); dsimp only [sQ, tQ, bQ]) | (apply Wp.run; (dsimp only [List.map] <;> exact rfl); exact rfl) | (apply Wp.exit; dsimp only [sQ, tQ, bQ]; simp only [reduceIte]) | (apply Run.gtrue; (simp only [push_cast, seval, he] <;> (try simp (disch := omega) only [wI, wU, wC]) <;> exact rfl); (simp only [push_cast, seval, he] <;> (try simp (disch := omega) only [wI, wU, wC]) <;> exact rfl)) | (apply Run.gfalse (.bool false); (simp only [push_cast, seval, he] <;> (try simp (disch := omega) only [wI, wU, wC]) <;> exact rfl); dsimp only [S.put, optG]) | (apply Wp.condT; (simp only [push_cast, seval, he] <;> (try simp (disch := omega) only [wI, wU, wC]) <;> exact rfl)) | (apply Wp.condF; (simp only [push_cast, seval, he] <;> (try simp (disch := omega) only [wI, wU, wC]) <;> exact rfl)))
    (apply Wp.ret; (try dsimp only [sQ, tQ, bQ]); apply leave0; exact rfl; (simp only [push_cast, seval, he] <;> (try simp (disch := omega) only [wI, wU, wC]) <;> exact rfl); all_goals (try simp only [push_cast, seval, he]); (try rfl))
end Go.Proofs.Try
