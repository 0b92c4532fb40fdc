/- A part of the proof of BookingLed: contracts of functions, with plain laws that they need. -/
import Derived.Test.YtbeclidfilbbdaaVgT
import Derived.Test.YtbeclidfilbbdaaVgDm
import Derived.Test.YtbeclidfilbbdaaVgVz
import Derived.Test.YtbeclidfilbbdaaVgK27J
set_option linter.all false
set_option maxHeartbeats 8000000
set_option maxRecDepth 20000
namespace Go.Proofs.Try
open Go.Vg

/-! the first right staff -/
def sI (n : Nat) (a : Nat → Nat) (i : Nat) : List Int := aL i a ++ List.replicate (n - i) (-1)
theorem sI_len {n i : Nat} (a : Nat → Nat) (h : i ≤ n) : (sI n a i).length = n := by simp [sI, aL_len]; omega
theorem sI_lo {n i j : Nat} (a : Nat → Nat) (h : j < i) : (sI n a i).getD j 0 = (a j : Int) := by
  have h1 := aL_get (k := i) a h
  have h2 := aL_len i a
  simp only [sI, List.getD_eq_getElem?_getD] at *
  rw [List.getElem?_append_left (by omega)]; exact h1
theorem sI_hi {n i j : Nat} (a : Nat → Nat) (h : i ≤ j) (hj : j < n) : (sI n a i).getD j 0 = -1 := by
  have h2 := aL_len i a
  simp only [sI, List.getD_eq_getElem?_getD]
  rw [List.getElem?_append_right (by omega), h2, List.getElem?_replicate, if_pos (by omega)]; rfl
theorem sI_set {n i : Nat} (a : Nat → Nat) (h : i < n) : (sI n a i).set i (a i : Int) = sI n a (i + 1) := by
  have h2 := aL_len i a
  unfold sI
  rw [List.set_append_right _ _ (by omega), h2, Nat.sub_self, aL_succ]
  obtain ⟨j, hj⟩ : ∃ j, n - i = j + 1 := ⟨n - i - 1, by omega⟩
  rw [hj, List.replicate_succ, List.set_cons_zero, show n - (i + 1) = j by omega]
  simp
theorem sI_all (n : Nat) (a : Nat → Nat) : sI n a n = aL n a := by simp [sI]
theorem sI_0 (n : Nat) (a : Nat → Nat) : sI n a 0 = List.replicate n (-1) := by simp [sI, aL]
theorem getD_set_ne (l : List Int) {i j : Nat} (z : Int) (h : i ≠ j) : (l.set i z).getD j 0 = l.getD j 0 := by
  simp only [List.getD_eq_getElem?_getD]; rw [List.getElem?_set_ne h]
theorem poss_at {cs : List Ch} {ms : List Ma} {cake : Int} {ls : List Bk} (h : PW cs ms cake ls) {o : List Nat} (ho : OV ls o) {a : Nat → Nat} (ha : VA cs ms ls a) (hx : ∀ a2, VA cs ms ls a2 → Lx ls.length a a2) {i v : Nat} (hi : i < ls.length) (hv : v ≤ a i) :
    rF cs ms ls ((sI ls.length a i).set i (v : Int)) o Z6 = decide (v = a i) := by
  have hl := sI_len a (Nat.le_of_lt hi)
  have hlo : ∀ j, j < i → ((sI ls.length a i).set i (v : Int)).getD j 0 = (a j : Int) := fun j hj => by
    rw [getD_set_ne _ _ (by omega), sI_lo a hj]
  have hme : ((sI ls.length a i).set i (v : Int)).getD i 0 = (v : Int) := getD_set_self _ _ _ (by omega)
  have hhi : ∀ j, i < j → j < ls.length → ((sI ls.length a i).set i (v : Int)).getD j 0 = -1 := fun j hj hj2 => by
    rw [getD_set_ne _ _ (by omega), sI_hi a (by omega) hj2]
  rw [Bool.eq_iff_iff, rota_iff h.hv.m6 h.hen ho, decide_eq_true_eq]
  constructor
  · rintro ⟨a2, h1, h2⟩
    have e1 : ∀ j, j < i → a j = a2 j := fun j hj => by
      have := h2 j (by omega) (by rw [hlo j hj]; omega)
      rw [hlo j hj] at this; omega
    have e2 := h2 i hi (by rw [hme]; omega)
    rw [hme] at e2
    have := hx a2 h1 i hi e1
    omega
  · rintro rfl
    refine ⟨a, ha, fun j hj h0 => ?_⟩
    rcases Nat.lt_trichotomy j i with h1 | h1 | h1
    · exact hlo j h1
    · subst h1; exact hme
    · rw [hhi j h1 hj] at h0; omega
def sfE (cs : List Ch) (ms : List Ma) (cake : Int) (ls : List Bk) : Int := if ckE cs ms cake ls = 0 then edE cs ms cake ls else ckE cs ms cake ls
def sfA (cs : List Ch) (ms : List Ma) (cake : Int) (ls : List Bk) : AV := if sfE cs ms cake ls = 0 then stA (stR cs ms ls ls.length []) else .emp
theorem Staff_pure (cs : List Ch) (ms : List Ma) (cake : Int) (ls : List Bk) (hc : cs.length ≤ 9223372036854775807) (hm : ms.length ≤ 9223372036854775807) (hl : ls.length ≤ 9223372036854775807) : Pure Try.prog 30 [houA cs ms cake, .lst 6 (ls.map bkA)] (.tup [sfA cs ms cake ls, .int (sfE cs ms cake ls)]) := by
  have hck := check_pure cs ms cake ls hc hm hl
  unfold sfA sfE
  by_cases h1 : ckE cs ms cake ls = 0
  · rw [if_pos h1]
    rw [h1] at hck
    have hpw := PW.of_ck h1
    have hf := fits_pure hpw.hv hpw.lv
    unfold edE
    cases h2 : fitB cs cake ls with
    | false =>
      rw [h2] at hf
      rw [if_neg (by simp)]
      (refine Spec.of_body Try.func30 rfl (by rw [Try.ntmps30]; simp) 0 (by simp) ?_; rw [Try.results30, Try.ntmps30]; simp only [entry, zipArgs, Nat.reduceAdd])
      repeat (first | apply Wp.seq | apply Wp.block | (apply Run.next; (simp only [push_cast, seval] <;> (try simp (disch := omega) only [wrap_i64, wrap_u8, Int.add_sub_cancel]) <;> exact rfl); (focus ((try simp only [push_cast, seval]) <;> (exact sideT)))) | (apply Run.nil; dsimp only [seqS, thenS, blockS]) | (apply Wp.run; (dsimp only [List.map] <;> exact rfl); (exact rfl)) | (apply Wp.skip; dsimp only [seqS, thenS, blockS]) | (apply Wp.exit; dsimp only [seqS, thenS, blockS]; simp only [reduceIte]))
      (apply Run.pureP; (simp only [push_cast, seval] <;> (try simp (disch := omega) only [wrap_i64, wrap_u8, Int.add_sub_cancel]) <;> exact rfl); (exact (Enters.of Try.func39 rfl rfl)); (exact hck); (focus (simp only [push_cast, seval] <;> first | trivial | assumption | (refine ⟨?_, ?_⟩ <;> assumption) | (simp; done))); (try dsimp only [putA, optG]))
      repeat (first | apply Wp.seq | apply Wp.block | (apply Run.next; (simp only [push_cast, seval] <;> (try simp (disch := omega) only [wrap_i64, wrap_u8, Int.add_sub_cancel]) <;> exact rfl); (focus ((try simp only [push_cast, seval]) <;> (exact sideT)))) | (apply Run.nil; dsimp only [seqS, thenS, blockS]) | (apply Wp.run; (dsimp only [List.map] <;> exact rfl); (exact rfl)) | (apply Wp.skip; dsimp only [seqS, thenS, blockS]) | (apply Wp.exit; dsimp only [seqS, thenS, blockS]; simp only [reduceIte]) | (apply Run.gtrue; (simp only [push_cast, seval] <;> (try simp (disch := omega) only [wrap_i64, wrap_u8, Int.add_sub_cancel]) <;> exact rfl); (simp only [push_cast, seval] <;> (try simp (disch := omega) only [wrap_i64, wrap_u8, Int.add_sub_cancel]) <;> exact rfl)) | (apply Run.gfalse (.bool false); (simp only [push_cast, seval] <;> (try simp (disch := omega) only [wrap_i64, wrap_u8, Int.add_sub_cancel]) <;> exact rfl); dsimp only [S.put, optG]) | (apply Wp.condT; (simp only [push_cast, seval] <;> (try simp (disch := omega) only [wrap_i64, wrap_u8, Int.add_sub_cancel]) <;> exact rfl)) | (apply Wp.condF; (simp only [push_cast, seval] <;> (try simp (disch := omega) only [wrap_i64, wrap_u8, Int.add_sub_cancel]) <;> exact rfl)))
      (apply Run.pureP; (simp only [push_cast, seval] <;> (try simp (disch := omega) only [wrap_i64, wrap_u8, Int.add_sub_cancel]) <;> exact rfl); (exact (Enters.of Try.func57 rfl rfl)); (exact hf); (focus (simp only [push_cast, seval] <;> first | trivial | assumption | (refine ⟨?_, ?_⟩ <;> assumption) | (simp; done))); (try dsimp only [putA, optG]))
      repeat (first | apply Wp.seq | apply Wp.block | (apply Run.next; (simp only [push_cast, seval] <;> (try simp (disch := omega) only [wrap_i64, wrap_u8, Int.add_sub_cancel]) <;> exact rfl); (focus ((try simp only [push_cast, seval]) <;> (exact sideT)))) | (apply Run.nil; dsimp only [seqS, thenS, blockS]) | (apply Wp.run; (dsimp only [List.map] <;> exact rfl); (exact rfl)) | (apply Wp.skip; dsimp only [seqS, thenS, blockS]) | (apply Wp.exit; dsimp only [seqS, thenS, blockS]; simp only [reduceIte]) | (apply Run.gtrue; (simp only [push_cast, seval] <;> (try simp (disch := omega) only [wrap_i64, wrap_u8, Int.add_sub_cancel]) <;> exact rfl); (simp only [push_cast, seval] <;> (try simp (disch := omega) only [wrap_i64, wrap_u8, Int.add_sub_cancel]) <;> exact rfl)) | (apply Run.gfalse (.bool false); (simp only [push_cast, seval] <;> (try simp (disch := omega) only [wrap_i64, wrap_u8, Int.add_sub_cancel]) <;> exact rfl); dsimp only [S.put, optG]) | (apply Wp.condT; (simp only [push_cast, seval] <;> (try simp (disch := omega) only [wrap_i64, wrap_u8, Int.add_sub_cancel]) <;> exact rfl)) | (apply Wp.condF; (simp only [push_cast, seval] <;> (try simp (disch := omega) only [wrap_i64, wrap_u8, Int.add_sub_cancel]) <;> exact rfl)))
      (apply Wp.ret; (try dsimp only [seqS, thenS, blockS]); apply leave0; (exact rfl); (simp only [push_cast, seval] <;> (try simp (disch := omega) only [wrap_i64, wrap_u8, Int.add_sub_cancel]) <;> exact rfl); all_goals (try simp only [push_cast, seval]); (try rfl))
    | true =>
      rw [h2] at hf
      rw [if_pos rfl]
      have hnr := newRota_spec2 hpw
      have hl20 := hpw.lv.l20
      cases h3 : psB cs ms ls with
      | false =>
        rw [if_neg (by simp)]
        (refine Spec.of_body Try.func30 rfl (by rw [Try.ntmps30]; simp) 0 (by simp) ?_; rw [Try.results30, Try.ntmps30]; simp only [entry, zipArgs, Nat.reduceAdd])
        repeat (first | apply Wp.seq | apply Wp.block | (apply Run.next; (simp only [push_cast, seval] <;> (try simp (disch := omega) only [wrap_i64, wrap_u8, Int.add_sub_cancel]) <;> exact rfl); (focus ((try simp only [push_cast, seval]) <;> (exact sideT)))) | (apply Run.nil; dsimp only [seqS, thenS, blockS]) | (apply Wp.run; (dsimp only [List.map] <;> exact rfl); (exact rfl)) | (apply Wp.skip; dsimp only [seqS, thenS, blockS]) | (apply Wp.exit; dsimp only [seqS, thenS, blockS]; simp only [reduceIte]))
        (apply Run.pureP; (simp only [push_cast, seval] <;> (try simp (disch := omega) only [wrap_i64, wrap_u8, Int.add_sub_cancel]) <;> exact rfl); (exact (Enters.of Try.func39 rfl rfl)); (exact hck); (focus (simp only [push_cast, seval] <;> first | trivial | assumption | (refine ⟨?_, ?_⟩ <;> assumption) | (simp; done))); (try dsimp only [putA, optG]))
        repeat (first | apply Wp.seq | apply Wp.block | (apply Run.next; (simp only [push_cast, seval] <;> (try simp (disch := omega) only [wrap_i64, wrap_u8, Int.add_sub_cancel]) <;> exact rfl); (focus ((try simp only [push_cast, seval]) <;> (exact sideT)))) | (apply Run.nil; dsimp only [seqS, thenS, blockS]) | (apply Wp.run; (dsimp only [List.map] <;> exact rfl); (exact rfl)) | (apply Wp.skip; dsimp only [seqS, thenS, blockS]) | (apply Wp.exit; dsimp only [seqS, thenS, blockS]; simp only [reduceIte]) | (apply Run.gtrue; (simp only [push_cast, seval] <;> (try simp (disch := omega) only [wrap_i64, wrap_u8, Int.add_sub_cancel]) <;> exact rfl); (simp only [push_cast, seval] <;> (try simp (disch := omega) only [wrap_i64, wrap_u8, Int.add_sub_cancel]) <;> exact rfl)) | (apply Run.gfalse (.bool false); (simp only [push_cast, seval] <;> (try simp (disch := omega) only [wrap_i64, wrap_u8, Int.add_sub_cancel]) <;> exact rfl); dsimp only [S.put, optG]) | (apply Wp.condT; (simp only [push_cast, seval] <;> (try simp (disch := omega) only [wrap_i64, wrap_u8, Int.add_sub_cancel]) <;> exact rfl)) | (apply Wp.condF; (simp only [push_cast, seval] <;> (try simp (disch := omega) only [wrap_i64, wrap_u8, Int.add_sub_cancel]) <;> exact rfl)))
        (apply Run.pureP; (simp only [push_cast, seval] <;> (try simp (disch := omega) only [wrap_i64, wrap_u8, Int.add_sub_cancel]) <;> exact rfl); (exact (Enters.of Try.func57 rfl rfl)); (exact hf); (focus (simp only [push_cast, seval] <;> first | trivial | assumption | (refine ⟨?_, ?_⟩ <;> assumption) | (simp; done))); (try dsimp only [putA, optG]))
        repeat (first | apply Wp.seq | apply Wp.block | (apply Run.next; (simp only [push_cast, seval] <;> (try simp (disch := omega) only [wrap_i64, wrap_u8, Int.add_sub_cancel]) <;> exact rfl); (focus ((try simp only [push_cast, seval]) <;> (exact sideT)))) | (apply Run.nil; dsimp only [seqS, thenS, blockS]) | (apply Wp.run; (dsimp only [List.map] <;> exact rfl); (exact rfl)) | (apply Wp.skip; dsimp only [seqS, thenS, blockS]) | (apply Wp.exit; dsimp only [seqS, thenS, blockS]; simp only [reduceIte]) | (apply Run.gtrue; (simp only [push_cast, seval] <;> (try simp (disch := omega) only [wrap_i64, wrap_u8, Int.add_sub_cancel]) <;> exact rfl); (simp only [push_cast, seval] <;> (try simp (disch := omega) only [wrap_i64, wrap_u8, Int.add_sub_cancel]) <;> exact rfl)) | (apply Run.gfalse (.bool false); (simp only [push_cast, seval] <;> (try simp (disch := omega) only [wrap_i64, wrap_u8, Int.add_sub_cancel]) <;> exact rfl); dsimp only [S.put, optG]) | (apply Wp.condT; (simp only [push_cast, seval] <;> (try simp (disch := omega) only [wrap_i64, wrap_u8, Int.add_sub_cancel]) <;> exact rfl)) | (apply Wp.condF; (simp only [push_cast, seval] <;> (try simp (disch := omega) only [wrap_i64, wrap_u8, Int.add_sub_cancel]) <;> exact rfl)))
        apply Run.fresh (he := Enters.of Try.func59 rfl rfl) (hc := hnr)
        · exact rfl
        · (simp only [push_cast, seval] <;> (try simp (disch := omega) only [wrap_i64, wrap_u8, Int.add_sub_cancel]) <;> exact rfl)
        · simp [AV.ok, okL, okL_ch, okL_ma, okL_bk]
        · rintro _ _ ⟨rfl, o, ho, rfl⟩
          have hp := possible1_spec hpw ho (stf := List.replicate ls.length (-1)) (by simp) (e0 := ⟨0, .row 3 [houA cs ms cake]⟩) (x6 := .emp) (fun k => by simp [Kind.ok, AV.ok, okL, okL_ch, okL_ma])
          rw [psB_rF hpw ho, h3] at hp
          rw [rotM_shift]
          dsimp only [S.put, optG]
          repeat (first | apply Wp.seq | apply Wp.block | (apply Run.next; (simp only [push_cast, seval] <;> (try simp (disch := omega) only [wrap_i64, wrap_u8, Int.add_sub_cancel]) <;> exact rfl); (focus ((try simp only [push_cast, seval]) <;> (exact sideT)))) | (apply Run.nil; dsimp only [seqS, thenS, blockS]) | (apply Wp.run; (dsimp only [List.map] <;> exact rfl); (exact rfl)) | (apply Wp.skip; dsimp only [seqS, thenS, blockS]) | (apply Wp.exit; dsimp only [seqS, thenS, blockS]; simp only [reduceIte]) | (apply Run.gtrue; (simp only [push_cast, seval] <;> (try simp (disch := omega) only [wrap_i64, wrap_u8, Int.add_sub_cancel]) <;> exact rfl); (simp only [push_cast, seval] <;> (try simp (disch := omega) only [wrap_i64, wrap_u8, Int.add_sub_cancel]) <;> exact rfl)) | (apply Run.gfalse (.bool false); (simp only [push_cast, seval] <;> (try simp (disch := omega) only [wrap_i64, wrap_u8, Int.add_sub_cancel]) <;> exact rfl); dsimp only [S.put, optG]) | (apply Wp.condT; (simp only [push_cast, seval] <;> (try simp (disch := omega) only [wrap_i64, wrap_u8, Int.add_sub_cancel]) <;> exact rfl)) | (apply Wp.condF; (simp only [push_cast, seval] <;> (try simp (disch := omega) only [wrap_i64, wrap_u8, Int.add_sub_cancel]) <;> exact rfl)))
          apply Run.spec (he := Enters.of Try.func60 rfl rfl) (hc := hp)
          · exact rfl
          · exact rfl
          · (simp only [push_cast, seval] <;> (try simp (disch := omega) only [wrap_i64, wrap_u8, Int.add_sub_cancel]) <;> exact rfl)
          · rintro _ _ ⟨rfl, rfl⟩
            dsimp only [S.put, optG]
            repeat (first | apply Wp.seq | apply Wp.block | (apply Run.next; (simp only [push_cast, seval] <;> (try simp (disch := omega) only [wrap_i64, wrap_u8, Int.add_sub_cancel]) <;> exact rfl); (focus ((try simp only [push_cast, seval]) <;> (exact sideT)))) | (apply Run.nil; dsimp only [seqS, thenS, blockS]) | (apply Wp.run; (dsimp only [List.map] <;> exact rfl); (exact rfl)) | (apply Wp.skip; dsimp only [seqS, thenS, blockS]) | (apply Wp.exit; dsimp only [seqS, thenS, blockS]; simp only [reduceIte]) | (apply Run.gtrue; (simp only [push_cast, seval] <;> (try simp (disch := omega) only [wrap_i64, wrap_u8, Int.add_sub_cancel]) <;> exact rfl); (simp only [push_cast, seval] <;> (try simp (disch := omega) only [wrap_i64, wrap_u8, Int.add_sub_cancel]) <;> exact rfl)) | (apply Run.gfalse (.bool false); (simp only [push_cast, seval] <;> (try simp (disch := omega) only [wrap_i64, wrap_u8, Int.add_sub_cancel]) <;> exact rfl); dsimp only [S.put, optG]) | (apply Wp.condT; (simp only [push_cast, seval] <;> (try simp (disch := omega) only [wrap_i64, wrap_u8, Int.add_sub_cancel]) <;> exact rfl)) | (apply Wp.condF; (simp only [push_cast, seval] <;> (try simp (disch := omega) only [wrap_i64, wrap_u8, Int.add_sub_cancel]) <;> exact rfl)))
            (apply Wp.ret; (try dsimp only [seqS, thenS, blockS]); apply leave0; (exact rfl); (simp only [push_cast, seval] <;> (try simp (disch := omega) only [wrap_i64, wrap_u8, Int.add_sub_cancel]) <;> exact rfl); all_goals (try simp only [push_cast, seval]); (try rfl))
      | true =>
        rw [if_pos rfl, if_pos rfl]
        have h3' := h3
        unfold psB at h3'
        cases hst : stR cs ms ls ls.length [] with
        | none => rw [hst] at h3'; cases h3'
        | some s =>
          obtain ⟨a, ha, hs, hx⟩ := stR_some hst
          have ham : ∀ i, i < ls.length → a i < ms.length := fun i hi => (ha.ok i hi).1
          have hm6 := hpw.hv.m6
          (refine Spec.of_body Try.func30 rfl (by rw [Try.ntmps30]; simp) 0 (by simp) ?_; rw [Try.results30, Try.ntmps30]; simp only [entry, zipArgs, Nat.reduceAdd])
          repeat (first | apply Wp.seq | apply Wp.block | (apply Run.next; (simp only [push_cast, seval] <;> (try simp (disch := omega) only [wrap_i64, wrap_u8, Int.add_sub_cancel]) <;> exact rfl); (focus ((try simp only [push_cast, seval]) <;> (exact sideT)))) | (apply Run.nil; dsimp only [seqS, thenS, blockS]) | (apply Wp.run; (dsimp only [List.map] <;> exact rfl); (exact rfl)) | (apply Wp.skip; dsimp only [seqS, thenS, blockS]) | (apply Wp.exit; dsimp only [seqS, thenS, blockS]; simp only [reduceIte]))
          (apply Run.pureP; (simp only [push_cast, seval] <;> (try simp (disch := omega) only [wrap_i64, wrap_u8, Int.add_sub_cancel]) <;> exact rfl); (exact (Enters.of Try.func39 rfl rfl)); (exact hck); (focus (simp only [push_cast, seval] <;> first | trivial | assumption | (refine ⟨?_, ?_⟩ <;> assumption) | (simp; done))); (try dsimp only [putA, optG]))
          repeat (first | apply Wp.seq | apply Wp.block | (apply Run.next; (simp only [push_cast, seval] <;> (try simp (disch := omega) only [wrap_i64, wrap_u8, Int.add_sub_cancel]) <;> exact rfl); (focus ((try simp only [push_cast, seval]) <;> (exact sideT)))) | (apply Run.nil; dsimp only [seqS, thenS, blockS]) | (apply Wp.run; (dsimp only [List.map] <;> exact rfl); (exact rfl)) | (apply Wp.skip; dsimp only [seqS, thenS, blockS]) | (apply Wp.exit; dsimp only [seqS, thenS, blockS]; simp only [reduceIte]) | (apply Run.gtrue; (simp only [push_cast, seval] <;> (try simp (disch := omega) only [wrap_i64, wrap_u8, Int.add_sub_cancel]) <;> exact rfl); (simp only [push_cast, seval] <;> (try simp (disch := omega) only [wrap_i64, wrap_u8, Int.add_sub_cancel]) <;> exact rfl)) | (apply Run.gfalse (.bool false); (simp only [push_cast, seval] <;> (try simp (disch := omega) only [wrap_i64, wrap_u8, Int.add_sub_cancel]) <;> exact rfl); dsimp only [S.put, optG]) | (apply Wp.condT; (simp only [push_cast, seval] <;> (try simp (disch := omega) only [wrap_i64, wrap_u8, Int.add_sub_cancel]) <;> exact rfl)) | (apply Wp.condF; (simp only [push_cast, seval] <;> (try simp (disch := omega) only [wrap_i64, wrap_u8, Int.add_sub_cancel]) <;> exact rfl)))
          (apply Run.pureP; (simp only [push_cast, seval] <;> (try simp (disch := omega) only [wrap_i64, wrap_u8, Int.add_sub_cancel]) <;> exact rfl); (exact (Enters.of Try.func57 rfl rfl)); (exact hf); (focus (simp only [push_cast, seval] <;> first | trivial | assumption | (refine ⟨?_, ?_⟩ <;> assumption) | (simp; done))); (try dsimp only [putA, optG]))
          repeat (first | apply Wp.seq | apply Wp.block | (apply Run.next; (simp only [push_cast, seval] <;> (try simp (disch := omega) only [wrap_i64, wrap_u8, Int.add_sub_cancel]) <;> exact rfl); (focus ((try simp only [push_cast, seval]) <;> (exact sideT)))) | (apply Run.nil; dsimp only [seqS, thenS, blockS]) | (apply Wp.run; (dsimp only [List.map] <;> exact rfl); (exact rfl)) | (apply Wp.skip; dsimp only [seqS, thenS, blockS]) | (apply Wp.exit; dsimp only [seqS, thenS, blockS]; simp only [reduceIte]) | (apply Run.gtrue; (simp only [push_cast, seval] <;> (try simp (disch := omega) only [wrap_i64, wrap_u8, Int.add_sub_cancel]) <;> exact rfl); (simp only [push_cast, seval] <;> (try simp (disch := omega) only [wrap_i64, wrap_u8, Int.add_sub_cancel]) <;> exact rfl)) | (apply Run.gfalse (.bool false); (simp only [push_cast, seval] <;> (try simp (disch := omega) only [wrap_i64, wrap_u8, Int.add_sub_cancel]) <;> exact rfl); dsimp only [S.put, optG]) | (apply Wp.condT; (simp only [push_cast, seval] <;> (try simp (disch := omega) only [wrap_i64, wrap_u8, Int.add_sub_cancel]) <;> exact rfl)) | (apply Wp.condF; (simp only [push_cast, seval] <;> (try simp (disch := omega) only [wrap_i64, wrap_u8, Int.add_sub_cancel]) <;> exact rfl)))
          apply Run.fresh (he := Enters.of Try.func59 rfl rfl) (hc := hnr)
          · exact rfl
          · (simp only [push_cast, seval] <;> (try simp (disch := omega) only [wrap_i64, wrap_u8, Int.add_sub_cancel]) <;> exact rfl)
          · simp [AV.ok, okL, okL_ch, okL_ma, okL_bk]
          · rintro _ _ ⟨rfl, o, ho, rfl⟩
            have he0 : ∀ k, Kind.ok k (⟨0, .row 3 [houA cs ms cake]⟩ : Ent).kind := fun k => by simp [Kind.ok, AV.ok, okL, okL_ch, okL_ma]
            have hp := possible1_spec hpw ho (stf := List.replicate ls.length (-1)) (by simp) (e0 := ⟨0, .row 3 [houA cs ms cake]⟩) (x6 := .emp) he0
            rw [psB_rF hpw ho, h3] at hp
            rw [rotM_shift]
            dsimp only [S.put, optG]
            repeat (first | apply Wp.seq | apply Wp.block | (apply Run.next; (simp only [push_cast, seval] <;> (try simp (disch := omega) only [wrap_i64, wrap_u8, Int.add_sub_cancel]) <;> exact rfl); (focus ((try simp only [push_cast, seval]) <;> (exact sideT)))) | (apply Run.nil; dsimp only [seqS, thenS, blockS]) | (apply Wp.run; (dsimp only [List.map] <;> exact rfl); (exact rfl)) | (apply Wp.skip; dsimp only [seqS, thenS, blockS]) | (apply Wp.exit; dsimp only [seqS, thenS, blockS]; simp only [reduceIte]) | (apply Run.gtrue; (simp only [push_cast, seval] <;> (try simp (disch := omega) only [wrap_i64, wrap_u8, Int.add_sub_cancel]) <;> exact rfl); (simp only [push_cast, seval] <;> (try simp (disch := omega) only [wrap_i64, wrap_u8, Int.add_sub_cancel]) <;> exact rfl)) | (apply Run.gfalse (.bool false); (simp only [push_cast, seval] <;> (try simp (disch := omega) only [wrap_i64, wrap_u8, Int.add_sub_cancel]) <;> exact rfl); dsimp only [S.put, optG]) | (apply Wp.condT; (simp only [push_cast, seval] <;> (try simp (disch := omega) only [wrap_i64, wrap_u8, Int.add_sub_cancel]) <;> exact rfl)) | (apply Wp.condF; (simp only [push_cast, seval] <;> (try simp (disch := omega) only [wrap_i64, wrap_u8, Int.add_sub_cancel]) <;> exact rfl)))
            apply Run.spec (he := Enters.of Try.func60 rfl rfl) (hc := hp)
            · exact rfl
            · exact rfl
            · (simp only [push_cast, seval] <;> (try simp (disch := omega) only [wrap_i64, wrap_u8, Int.add_sub_cancel]) <;> exact rfl)
            · rintro _ _ ⟨rfl, rfl⟩
              dsimp only [S.put, optG]
              repeat (first | apply Wp.seq | apply Wp.block | (apply Run.next; (simp only [push_cast, seval] <;> (try simp (disch := omega) only [wrap_i64, wrap_u8, Int.add_sub_cancel]) <;> exact rfl); (focus ((try simp only [push_cast, seval]) <;> (exact sideT)))) | (apply Run.nil; dsimp only [seqS, thenS, blockS]) | (apply Wp.run; (dsimp only [List.map] <;> exact rfl); (exact rfl)) | (apply Wp.skip; dsimp only [seqS, thenS, blockS]) | (apply Wp.exit; dsimp only [seqS, thenS, blockS]; simp only [reduceIte]) | (apply Run.gtrue; (simp only [push_cast, seval] <;> (try simp (disch := omega) only [wrap_i64, wrap_u8, Int.add_sub_cancel]) <;> exact rfl); (simp only [push_cast, seval] <;> (try simp (disch := omega) only [wrap_i64, wrap_u8, Int.add_sub_cancel]) <;> exact rfl)) | (apply Run.gfalse (.bool false); (simp only [push_cast, seval] <;> (try simp (disch := omega) only [wrap_i64, wrap_u8, Int.add_sub_cancel]) <;> exact rfl); dsimp only [S.put, optG]) | (apply Wp.condT; (simp only [push_cast, seval] <;> (try simp (disch := omega) only [wrap_i64, wrap_u8, Int.add_sub_cancel]) <;> exact rfl)) | (apply Wp.condF; (simp only [push_cast, seval] <;> (try simp (disch := omega) only [wrap_i64, wrap_u8, Int.add_sub_cancel]) <;> exact rfl)))
              refine Wp.loop (fun (i : Nat) => { t := [(7, .optr 4 0 0 0), (26, .int ls.length), (27, .int i)], m := ⟨0, .row 3 [houA cs ms cake]⟩ :: rotM 1 cs ms cake ls o (sI ls.length a i) .any, n := 53 }) (fun i => i ≤ ls.length) (fun i => ls.length - i) 0 ?_ ?_ ?_
              · rw [sI_0]
                (refine Le.of ?_ ?_ rfl rfl <;> (try simp only [push_cast, seval]) <;> (try (with_reducible rfl)))
                all_goals rfl
              · simp
              · intro i hi
                have hsl := sI_len a hi
                repeat (first | apply Wp.seq | apply Wp.block | (apply Run.next; (simp only [push_cast, seval] <;> (try simp (disch := omega) only [wrap_i64, wrap_u8, Int.add_sub_cancel]) <;> exact rfl); (focus ((try simp only [push_cast, seval]) <;> (exact sideT)))) | (apply Run.nil; dsimp only [seqS, thenS, blockS]) | (apply Wp.run; (dsimp only [List.map] <;> exact rfl); (exact rfl)) | (apply Wp.skip; dsimp only [seqS, thenS, blockS]) | (apply Wp.exit; dsimp only [seqS, thenS, blockS]; simp only [reduceIte]))
                (apply Wp.cond; (simp only [push_cast, seval] <;> (try simp (disch := omega) only [wrap_i64, wrap_u8, Int.add_sub_cancel]) <;> exact rfl))
                · intro hc1
                  simp only [decide_eq_true_eq, Int.ofNat_lt] at hc1
                  have hset := sI_set a hc1
                  have hai := ham i hc1
                  have hpa := fun v hv => poss_at hpw ho ha hx (i := i) (v := v) hc1 hv
                  generalize hS : sI ls.length a i = Sx at hsl hset hpa
                  have hgs : ∀ v : Int, (Sx.set i v).getD i 0 = v := fun v => getD_set_self _ _ _ (by omega)
                  have hss : ∀ v w : Int, (Sx.set i v).set i w = Sx.set i w := fun v w => List.set_set _
                  repeat (first | apply Wp.seq | apply Wp.block | (apply Run.next; (simp only [push_cast, seval, rotM, hsl, hgs, hss] <;> (try simp (disch := omega) only [wrap_i64, wrap_u8, Int.add_sub_cancel]) <;> exact rfl); (focus ((try simp only [push_cast, seval, rotM, hsl, hgs, hss]) <;> (exact sideT)))) | (apply Run.nil; dsimp only [seqS, thenS, blockS]) | (apply Wp.run; (dsimp only [List.map] <;> exact rfl); (exact rfl)) | (apply Wp.skip; dsimp only [seqS, thenS, blockS]) | (apply Wp.exit; dsimp only [seqS, thenS, blockS]; simp only [reduceIte]))
                  refine Wp.loop (fun (v : Nat) => { t := [(7, .optr 4 0 0 0), (26, .int ls.length), (27, .int i), (8, .int i)], m := ⟨0, .row 3 [houA cs ms cake]⟩ :: rotM 1 cs ms cake ls o (Sx.set i (v : Int)) .any, n := 53 }) (fun v => v ≤ a i) (fun v => a i - v) 0 ?_ ?_ ?_
                  · (refine Le.of ?_ ?_ rfl rfl <;> (try simp only [push_cast, seval, rotM, hsl, hgs, hss]) <;> (try (with_reducible rfl)))
                    all_goals rfl
                  · simp
                  · intro v hv
                    have hpv := possible1_spec hpw ho (stf := Sx.set i (v : Int)) (by simp; omega) (e0 := ⟨0, .row 3 [houA cs ms cake]⟩) (x6 := .any) he0
                    rw [hpa v hv] at hpv
                    repeat (first | apply Wp.seq | apply Wp.block | (apply Run.next; (simp only [push_cast, seval, rotM, hsl, hgs, hss] <;> (try simp (disch := omega) only [wrap_i64, wrap_u8, Int.add_sub_cancel]) <;> exact rfl); (focus ((try simp only [push_cast, seval, rotM, hsl, hgs, hss]) <;> (exact sideT)))) | (apply Run.nil; dsimp only [seqS, thenS, blockS]) | (apply Wp.run; (dsimp only [List.map] <;> exact rfl); (exact rfl)) | (apply Wp.skip; dsimp only [seqS, thenS, blockS]) | (apply Wp.exit; dsimp only [seqS, thenS, blockS]; simp only [reduceIte]))
                    apply Run.spec (he := Enters.of Try.func60 rfl rfl) (hc := hpv)
                    · exact rfl
                    · exact rfl
                    · (simp only [push_cast, seval, rotM, hsl, hgs, hss] <;> (try simp (disch := omega) only [wrap_i64, wrap_u8, Int.add_sub_cancel]) <;> exact rfl)
                    · rintro _ _ ⟨rfl, rfl⟩
                      dsimp only [S.put, optG]
                      repeat (first | apply Wp.seq | apply Wp.block | (apply Run.next; (simp only [push_cast, seval, rotM, hsl, hgs, hss] <;> (try simp (disch := omega) only [wrap_i64, wrap_u8, Int.add_sub_cancel]) <;> exact rfl); (focus ((try simp only [push_cast, seval, rotM, hsl, hgs, hss]) <;> (exact sideT)))) | (apply Run.nil; dsimp only [seqS, thenS, blockS]) | (apply Wp.run; (dsimp only [List.map] <;> exact rfl); (exact rfl)) | (apply Wp.skip; dsimp only [seqS, thenS, blockS]) | (apply Wp.exit; dsimp only [seqS, thenS, blockS]; simp only [reduceIte]))
                      (apply Wp.cond; (simp only [push_cast, seval, rotM, hsl, hgs, hss] <;> (try simp (disch := omega) only [wrap_i64, wrap_u8, Int.add_sub_cancel]) <;> exact rfl))
                      · intro h5
                        simp only [Bool.not_eq_true', decide_eq_false_iff_not] at h5
                        repeat (first | apply Wp.seq | apply Wp.block | (apply Run.next; (simp only [push_cast, seval, rotM, hsl, hgs, hss] <;> (try simp (disch := omega) only [wrap_i64, wrap_u8, Int.add_sub_cancel]) <;> exact rfl); (focus ((try simp only [push_cast, seval, rotM, hsl, hgs, hss]) <;> (exact sideT)))) | (apply Run.nil; dsimp only [seqS, thenS, blockS]) | (apply Wp.run; (dsimp only [List.map] <;> exact rfl); (exact rfl)) | (apply Wp.skip; dsimp only [seqS, thenS, blockS]) | (apply Wp.exit; dsimp only [seqS, thenS, blockS]; simp only [reduceIte]))
                        refine ⟨v + 1, ?_, by omega, by omega⟩
                        (refine Le.of ?_ ?_ rfl rfl <;> (try simp only [push_cast, seval, rotM, hsl, hgs, hss]) <;> (try (with_reducible rfl)))
                      · intro h5
                        simp only [Bool.not_eq_false', decide_eq_true_eq] at h5
                        subst h5
                        rw [hset]
                        repeat (first | apply Wp.seq | apply Wp.block | (apply Run.next; (simp only [push_cast, seval, rotM, hsl, hgs, hss] <;> (try simp (disch := omega) only [wrap_i64, wrap_u8, Int.add_sub_cancel]) <;> exact rfl); (focus ((try simp only [push_cast, seval, rotM, hsl, hgs, hss]) <;> (exact sideT)))) | (apply Run.nil; dsimp only [seqS, thenS, blockS]) | (apply Wp.run; (dsimp only [List.map] <;> exact rfl); (exact rfl)) | (apply Wp.skip; dsimp only [seqS, thenS, blockS]) | (apply Wp.exit; dsimp only [seqS, thenS, blockS]; simp only [reduceIte]))
                        refine ⟨i + 1, ?_, by omega, by omega⟩
                        (refine Le.of ?_ ?_ rfl rfl <;> (try simp only [push_cast, seval, rotM, hsl, hgs, hss]) <;> (try (with_reducible rfl)))
                · intro hc1
                  simp only [decide_eq_false_iff_not, Int.ofNat_lt] at hc1
                  obtain rfl : i = ls.length := by omega
                  have hal : (aL ls.length a).take ls.length = aL ls.length a := List.take_of_length_le (by rw [aL_len]; exact Nat.le_refl _)
                  have hall := aL_len ls.length a
                  rw [sI_all]
                  repeat (first | apply Wp.seq | apply Wp.block | (apply Run.next; (simp only [push_cast, seval, rotM, hall] <;> (try simp (disch := omega) only [wrap_i64, wrap_u8, Int.add_sub_cancel]) <;> exact rfl); (focus ((try simp only [push_cast, seval, rotM, hall]) <;> (exact sideT)))) | (apply Run.nil; dsimp only [seqS, thenS, blockS]) | (apply Wp.run; (dsimp only [List.map] <;> exact rfl); (exact rfl)) | (apply Wp.skip; dsimp only [seqS, thenS, blockS]) | (apply Wp.exit; dsimp only [seqS, thenS, blockS]; simp only [reduceIte]))
                  (apply Wp.freeze 4; (simp only [push_cast, seval, rotM, hall] <;> (try simp (disch := omega) only [wrap_i64, wrap_u8, Int.add_sub_cancel]) <;> exact rfl); (simp only [push_cast, seval, rotM, hall] <;> (try simp (disch := omega) only [wrap_i64, wrap_u8, Int.add_sub_cancel]) <;> exact rfl); (focus (try simp only [push_cast, seval, rotM, hall]); (try ((exact sideT)))); (focus ((exact sideT))))
                  (apply Wp.ret; (try dsimp only [seqS, thenS, blockS]); apply leave0; (exact rfl); (simp only [push_cast, seval, rotM, hall] <;> (try simp (disch := omega) only [wrap_i64, wrap_u8, Int.add_sub_cancel]) <;> exact rfl); all_goals (try simp only [push_cast, seval, rotM, hall]); (try rfl))
                  rw [hal, hs]; rfl
  · rw [if_neg h1]
    have hne : decide (ckE cs ms cake ls = 0) = false := decide_eq_false h1
    rw [if_neg h1]
    (refine Spec.of_body Try.func30 rfl (by rw [Try.ntmps30]; simp) 0 (by simp) ?_; rw [Try.results30, Try.ntmps30]; simp only [entry, zipArgs, Nat.reduceAdd])
    repeat (first | apply Wp.seq | apply Wp.block | (apply Run.next; (simp only [push_cast, seval, hne] <;> (try simp (disch := omega) only [wrap_i64, wrap_u8, Int.add_sub_cancel]) <;> exact rfl); (focus ((try simp only [push_cast, seval, hne]) <;> (exact sideT)))) | (apply Run.nil; dsimp only [seqS, thenS, blockS]) | (apply Wp.run; (dsimp only [List.map] <;> exact rfl); (exact rfl)) | (apply Wp.skip; dsimp only [seqS, thenS, blockS]) | (apply Wp.exit; dsimp only [seqS, thenS, blockS]; simp only [reduceIte]))
    (apply Run.pureP; (simp only [push_cast, seval, hne] <;> (try simp (disch := omega) only [wrap_i64, wrap_u8, Int.add_sub_cancel]) <;> exact rfl); (exact (Enters.of Try.func39 rfl rfl)); (exact hck); (focus (simp only [push_cast, seval, hne] <;> first | trivial | assumption | (refine ⟨?_, ?_⟩ <;> assumption) | (simp; done))); (try dsimp only [putA, optG]))
    repeat (first | apply Wp.seq | apply Wp.block | (apply Run.next; (simp only [push_cast, seval, hne] <;> (try simp (disch := omega) only [wrap_i64, wrap_u8, Int.add_sub_cancel]) <;> exact rfl); (focus ((try simp only [push_cast, seval, hne]) <;> (exact sideT)))) | (apply Run.nil; dsimp only [seqS, thenS, blockS]) | (apply Wp.run; (dsimp only [List.map] <;> exact rfl); (exact rfl)) | (apply Wp.skip; dsimp only [seqS, thenS, blockS]) | (apply Wp.exit; dsimp only [seqS, thenS, blockS]; simp only [reduceIte]) | (apply Run.gtrue; (simp only [push_cast, seval, hne] <;> (try simp (disch := omega) only [wrap_i64, wrap_u8, Int.add_sub_cancel]) <;> exact rfl); (simp only [push_cast, seval, hne] <;> (try simp (disch := omega) only [wrap_i64, wrap_u8, Int.add_sub_cancel]) <;> exact rfl)) | (apply Run.gfalse (.bool false); (simp only [push_cast, seval, hne] <;> (try simp (disch := omega) only [wrap_i64, wrap_u8, Int.add_sub_cancel]) <;> exact rfl); dsimp only [S.put, optG]) | (apply Wp.condT; (simp only [push_cast, seval, hne] <;> (try simp (disch := omega) only [wrap_i64, wrap_u8, Int.add_sub_cancel]) <;> exact rfl)) | (apply Wp.condF; (simp only [push_cast, seval, hne] <;> (try simp (disch := omega) only [wrap_i64, wrap_u8, Int.add_sub_cancel]) <;> exact rfl)))
    (apply Wp.ret; (try dsimp only [seqS, thenS, blockS]); apply leave0; (exact rfl); (simp only [push_cast, seval, hne] <;> (try simp (disch := omega) only [wrap_i64, wrap_u8, Int.add_sub_cancel]) <;> exact rfl); all_goals (try simp only [push_cast, seval, hne]); (try rfl))
end Go.Proofs.Try
set_option maxHeartbeats 8000000
namespace Go.Proofs.Try
open Go.Vg
theorem memI {l : List Int} {k : Nat} (h : k < l.length) : l.getD k 0 ∈ l := by simp [h]
theorem findI {l : List Int} {p : Int → Bool} {k : Nat} (hk : k < l.length) (h1 : ∀ j, j < k → p (l.getD j 0) = false) (h2 : p (l.getD k 0) = true) : l.any p = true ∧ l.findIdx p = k := by
  have e : ∀ j (hj : j < l.length), l.getD j 0 = l[j] := fun j hj => by simp [hj]
  refine ⟨List.any_eq_true.2 ⟨l[k], List.getElem_mem hk, by rw [← e k hk]; exact h2⟩, ?_⟩
  rw [List.findIdx_eq hk]
  refine ⟨by rw [← e k hk]; exact h2, fun j hj => ?_⟩
  have := h1 j hj
  rw [e j (by omega)] at this
  exact this
theorem anyNoneI {l : List Int} {p : Int → Bool} (h : ∀ j, j < l.length → p (l.getD j 0) = false) : l.any p = false := by
  rw [List.any_eq_false]
  intro x hx
  obtain ⟨i, hi, rfl⟩ := List.getElem_of_mem hx
  have := h i hi
  simp [hi] at this
  simp [this]
theorem indexFuncI (l : List Int) (g : FuncId) (caps : List AV) (p : Int → Bool) (hg : Enters Try.prog g) (hk : okL 0 caps) (hcv : ∀ m, caps.map (view m) = caps ∧ caps.map (view2 m) = caps) (hp : ∀ x ∈ l, Pure Try.prog g (AV.int x :: caps) (.bool (p x))) (hl : l.length ≤ 9223372036854775807) :
    Pure Try.prog 92 [.ints l, .clo g caps] (.int (if l.any p then (l.findIdx p : Int) else -1)) := by
  (refine Spec.of_body Try.func92 rfl (by rw [Try.ntmps92]; simp) 0 (by simp) ?_; rw [Try.results92, Try.ntmps92]; simp only [entry, zipArgs, Nat.reduceAdd])
  repeat (first | apply Wp.seq | apply Wp.block | (apply Run.next; (simp only [push_cast, seval, hcv, List.map_append] <;> (try simp (disch := omega) only [wrap_i64, wrap_u8, Int.add_sub_cancel]) <;> exact rfl); (focus ((try simp only [push_cast, seval, hcv, List.map_append]) <;> (exact sideT)))) | (apply Run.nil; dsimp only [seqS, thenS, blockS]) | (apply Wp.run; (dsimp only [List.map] <;> exact rfl); (exact rfl)) | (apply Wp.skip; dsimp only [seqS, thenS, blockS]) | (apply Wp.exit; dsimp only [seqS, thenS, blockS]; simp only [reduceIte]))
  refine Wp.loop (fun k : Nat => { t := [(0, .ints l), (1, .clo g caps), (7, .int l.length), (8, .int k)], m := [], n := 19 }) (fun k => k ≤ l.length ∧ ∀ j, j < k → p (l.getD j 0) = false) (fun k => l.length - k) 0 ?_ ?_ ?_
  · (refine Le.of ?_ ?_ rfl rfl <;> (try simp only [push_cast, seval, hcv, List.map_append]) <;> (try (with_reducible rfl)))
  · simp
  · rintro k ⟨hk1, hk2⟩
    repeat (first | apply Wp.seq | apply Wp.block | (apply Run.next; (simp only [push_cast, seval, hcv, List.map_append] <;> (try simp (disch := omega) only [wrap_i64, wrap_u8, Int.add_sub_cancel]) <;> exact rfl); (focus ((try simp only [push_cast, seval, hcv, List.map_append]) <;> (exact sideT)))) | (apply Run.nil; dsimp only [seqS, thenS, blockS]) | (apply Wp.run; (dsimp only [List.map] <;> exact rfl); (exact rfl)) | (apply Wp.skip; dsimp only [seqS, thenS, blockS]) | (apply Wp.exit; dsimp only [seqS, thenS, blockS]; simp only [reduceIte]))
    (apply Wp.cond; (simp only [push_cast, seval, hcv, List.map_append] <;> (try simp (disch := omega) only [wrap_i64, wrap_u8, Int.add_sub_cancel]) <;> exact rfl))
    · (intro hc; try simp only [decide_eq_true_eq, decide_eq_false_iff_not, Bool.and_eq_true, Bool.or_eq_true, Bool.not_eq_true, Bool.not_eq_false, Bool.not_eq_true', Bool.not_eq_false', Bool.and_eq_false_iff, Bool.or_eq_false_iff, Int.not_lt, Int.not_le, Int.ofNat_lt, Int.ofNat_le] at hc)
      have hpk := hp _ (memI hc)
      generalize hx : l.getD k 0 = x at hpk
      repeat (first | apply Wp.seq | apply Wp.block | (apply Run.next; (simp only [push_cast, seval, hcv, List.map_append, hx] <;> (try simp (disch := omega) only [wrap_i64, wrap_u8, Int.add_sub_cancel]) <;> exact rfl); (focus ((try simp only [push_cast, seval, hcv, List.map_append, hx]) <;> (exact sideT)))) | (apply Run.nil; dsimp only [seqS, thenS, blockS]) | (apply Wp.run; (dsimp only [List.map] <;> exact rfl); (exact rfl)) | (apply Wp.skip; dsimp only [seqS, thenS, blockS]) | (apply Wp.exit; dsimp only [seqS, thenS, blockS]; simp only [reduceIte]))
      (apply Run.pureP; (simp only [push_cast, seval, hcv, List.map_append, hx] <;> (try simp (disch := omega) only [wrap_i64, wrap_u8, Int.add_sub_cancel]) <;> exact rfl); (exact hg); (exact hpk); (focus (simp only [push_cast, seval, hcv, List.map_append, hx] <;> first | trivial | assumption | (refine ⟨?_, ?_⟩ <;> assumption) | (simp; done))); (try dsimp only [putA, optG]))
      repeat (first | apply Wp.seq | apply Wp.block | (apply Run.next; (simp only [push_cast, seval, hcv, List.map_append, hx] <;> (try simp (disch := omega) only [wrap_i64, wrap_u8, Int.add_sub_cancel]) <;> exact rfl); (focus ((try simp only [push_cast, seval, hcv, List.map_append, hx]) <;> (exact sideT)))) | (apply Run.nil; dsimp only [seqS, thenS, blockS]) | (apply Wp.run; (dsimp only [List.map] <;> exact rfl); (exact rfl)) | (apply Wp.skip; dsimp only [seqS, thenS, blockS]) | (apply Wp.exit; dsimp only [seqS, thenS, blockS]; simp only [reduceIte]))
      (apply Wp.cond; (simp only [push_cast, seval, hcv, List.map_append, hx] <;> (try simp (disch := omega) only [wrap_i64, wrap_u8, Int.add_sub_cancel]) <;> exact rfl))
      · intro h2
        rw [← hx] at h2
        obtain ⟨e1, e2⟩ := findI hc hk2 h2
        repeat (first | apply Wp.seq | apply Wp.block | (apply Run.next; (simp only [push_cast, seval, hcv, List.map_append, hx] <;> (try simp (disch := omega) only [wrap_i64, wrap_u8, Int.add_sub_cancel]) <;> exact rfl); (focus ((try simp only [push_cast, seval, hcv, List.map_append, hx]) <;> (exact sideT)))) | (apply Run.nil; dsimp only [seqS, thenS, blockS]) | (apply Wp.run; (dsimp only [List.map] <;> exact rfl); (exact rfl)) | (apply Wp.skip; dsimp only [seqS, thenS, blockS]) | (apply Wp.exit; dsimp only [seqS, thenS, blockS]; simp only [reduceIte]))
        (apply Wp.ret; (try dsimp only [seqS, thenS, blockS]); apply leave0; (exact rfl); (simp only [push_cast, seval, hcv, List.map_append, hx] <;> (try simp (disch := omega) only [wrap_i64, wrap_u8, Int.add_sub_cancel]) <;> exact rfl); all_goals (try simp only [push_cast, seval, hcv, List.map_append, hx]); (try rfl))
        rw [e1, e2]; rfl
      · intro h2
        repeat (first | apply Wp.seq | apply Wp.block | (apply Run.next; (simp only [push_cast, seval, hcv, List.map_append, hx] <;> (try simp (disch := omega) only [wrap_i64, wrap_u8, Int.add_sub_cancel]) <;> exact rfl); (focus ((try simp only [push_cast, seval, hcv, List.map_append, hx]) <;> (exact sideT)))) | (apply Run.nil; dsimp only [seqS, thenS, blockS]) | (apply Wp.run; (dsimp only [List.map] <;> exact rfl); (exact rfl)) | (apply Wp.skip; dsimp only [seqS, thenS, blockS]) | (apply Wp.exit; dsimp only [seqS, thenS, blockS]; simp only [reduceIte]))
        refine ⟨k + 1, ?_, ⟨by omega, fun j hj => ?_⟩, by omega⟩
        · (refine Le.of ?_ ?_ rfl rfl <;> (try simp only [push_cast, seval, hcv, List.map_append, hx]) <;> (try (with_reducible rfl)))
        · by_cases hjk : j = k
          · subst hjk; rw [hx]; exact h2
          · exact hk2 j (by omega)
    · (intro hc; try simp only [decide_eq_true_eq, decide_eq_false_iff_not, Bool.and_eq_true, Bool.or_eq_true, Bool.not_eq_true, Bool.not_eq_false, Bool.not_eq_true', Bool.not_eq_false', Bool.and_eq_false_iff, Bool.or_eq_false_iff, Int.not_lt, Int.not_le, Int.ofNat_lt, Int.ofNat_le] at hc)
      repeat (first | apply Wp.seq | apply Wp.block | (apply Run.next; (simp only [push_cast, seval, hcv, List.map_append] <;> (try simp (disch := omega) only [wrap_i64, wrap_u8, Int.add_sub_cancel]) <;> exact rfl); (focus ((try simp only [push_cast, seval, hcv, List.map_append]) <;> (exact sideT)))) | (apply Run.nil; dsimp only [seqS, thenS, blockS]) | (apply Wp.run; (dsimp only [List.map] <;> exact rfl); (exact rfl)) | (apply Wp.skip; dsimp only [seqS, thenS, blockS]) | (apply Wp.exit; dsimp only [seqS, thenS, blockS]; simp only [reduceIte]))
      obtain rfl : k = l.length := by omega
      have e1 := anyNoneI hk2
      (apply Wp.ret; (try dsimp only [seqS, thenS, blockS]); apply leave0; (exact rfl); (simp only [push_cast, seval, hcv, List.map_append] <;> (try simp (disch := omega) only [wrap_i64, wrap_u8, Int.add_sub_cancel]) <;> exact rfl); all_goals (try simp only [push_cast, seval, hcv, List.map_append]); (try rfl))
      rw [e1]; rfl
theorem containsFuncI (l : List Int) (g : FuncId) (caps : List AV) (p : Int → Bool) (hg : Enters Try.prog g) (hk : okL 0 caps) (hcv : ∀ m, caps.map (view m) = caps ∧ caps.map (view2 m) = caps) (hp : ∀ x ∈ l, Pure Try.prog g (AV.int x :: caps) (.bool (p x))) (hl : l.length ≤ 9223372036854775807) :
    Pure Try.prog 63 [.ints l, .clo g caps] (.bool (l.any p)) := by
  (refine Spec.of_body Try.func63 rfl (by rw [Try.ntmps63]; simp) 0 (by simp) ?_; rw [Try.results63, Try.ntmps63]; simp only [entry, zipArgs, Nat.reduceAdd])
  repeat (first | apply Wp.seq | apply Wp.block | (apply Run.next; (simp only [push_cast, seval, hcv, List.map_append] <;> (try simp (disch := omega) only [wrap_i64, wrap_u8, Int.add_sub_cancel]) <;> exact rfl); (focus ((try simp only [push_cast, seval, hcv, List.map_append]) <;> (exact sideT)))) | (apply Run.nil; dsimp only [seqS, thenS, blockS]) | (apply Wp.run; (dsimp only [List.map] <;> exact rfl); (exact rfl)) | (apply Wp.skip; dsimp only [seqS, thenS, blockS]) | (apply Wp.exit; dsimp only [seqS, thenS, blockS]; simp only [reduceIte]))
  (apply Run.pureP; (simp only [push_cast, seval, hcv, List.map_append] <;> (try simp (disch := omega) only [wrap_i64, wrap_u8, Int.add_sub_cancel]) <;> exact rfl); (exact (Enters.of Try.func92 rfl rfl)); (exact indexFuncI l g caps p hg hk hcv hp hl); (focus (simp only [push_cast, seval, hcv, List.map_append] <;> first | trivial | assumption | (refine ⟨?_, ?_⟩ <;> assumption) | (simp; done))); (try dsimp only [putA, optG]))
  repeat (first | apply Wp.seq | apply Wp.block | (apply Run.next; (simp only [push_cast, seval, hcv, List.map_append] <;> (try simp (disch := omega) only [wrap_i64, wrap_u8, Int.add_sub_cancel]) <;> exact rfl); (focus ((try simp only [push_cast, seval, hcv, List.map_append]) <;> (exact sideT)))) | (apply Run.nil; dsimp only [seqS, thenS, blockS]) | (apply Wp.run; (dsimp only [List.map] <;> exact rfl); (exact rfl)) | (apply Wp.skip; dsimp only [seqS, thenS, blockS]) | (apply Wp.exit; dsimp only [seqS, thenS, blockS]; simp only [reduceIte]))
  (apply Wp.ret; (try dsimp only [seqS, thenS, blockS]); apply leave0; (exact rfl); (simp only [push_cast, seval, hcv, List.map_append] <;> (try simp (disch := omega) only [wrap_i64, wrap_u8, Int.add_sub_cancel]) <;> exact rfl); all_goals (try simp only [push_cast, seval, hcv, List.map_append]); (try rfl))
  split <;> simp_all
end Go.Proofs.Try
set_option maxHeartbeats 8000000
set_option maxRecDepth 20000
namespace Go.Proofs.Try
open Go.Vg

/-! whether a staff is right -/
def inS (ms : List Ma) (stf : List Int) : Bool := stf.all fun m => wi m 0 ((ms.length : Int) - 1)
def csW (cs : List Ch) (ms : List Ma) (ls : List Bk) (stf : List Int) : Option Nat := fsM (fun i => if wrB cs ms ls (stf.take (i + 1)) = true then some i else none) ls.length
def csV (cs : List Ch) (ms : List Ma) (cake : Int) (ls : List Bk) (stf : List Int) : Int × Int :=
  if ckE cs ms cake ls = 0 then (if stf.length = ls.length ∧ inS ms stf = true then (match csW cs ms ls stf with
    | some i => ((i : Int), 112)
    | none => (0, 0)) else (0, 1)) else (0, ckE cs ms cake ls)
theorem checkStaff1_pure (cs : List Ch) (ms : List Ma) (cake m : Int) (hm : ms.length ≤ 9223372036854775807) : Pure Try.prog 64 [.int m, .ref [.lst 4 (cs.map chA), .lst 3 (ms.map maA), .int cake] 0] (.bool (!wi m 0 ((ms.length : Int) - 1))) := by
  (refine Spec.of_body Try.func64 rfl (by rw [Try.ntmps64]; simp) 0 (by simp) ?_; rw [Try.results64, Try.ntmps64]; simp only [entry, zipArgs, Nat.reduceAdd])
  repeat (first | apply Wp.seq | apply Wp.block | (apply Run.next; (simp only [push_cast, seval] <;> (try simp (disch := omega) only [wrap_i64, wrap_u8, Int.add_sub_cancel]) <;> exact rfl); (focus ((try simp only [push_cast, seval]) <;> (exact sideT)))) | (apply Run.nil; dsimp only [seqS, thenS, blockS]) | (apply Wp.run; (dsimp only [List.map] <;> exact rfl); (exact rfl)) | (apply Wp.skip; dsimp only [seqS, thenS, blockS]) | (apply Wp.exit; dsimp only [seqS, thenS, blockS]; simp only [reduceIte]))
  (apply Run.pureP; (simp only [push_cast, seval] <;> (try simp (disch := omega) only [wrap_i64, wrap_u8, Int.add_sub_cancel]) <;> exact rfl); (exact (Enters.of Try.func65 rfl rfl)); (exact within_pure _ _ _); (focus (simp only [push_cast, seval] <;> first | trivial | assumption | (refine ⟨?_, ?_⟩ <;> assumption) | (simp; done))); (try dsimp only [putA, optG]))
  repeat (first | apply Wp.seq | apply Wp.block | (apply Run.next; (simp only [push_cast, seval] <;> (try simp (disch := omega) only [wrap_i64, wrap_u8, Int.add_sub_cancel]) <;> exact rfl); (focus ((try simp only [push_cast, seval]) <;> (exact sideT)))) | (apply Run.nil; dsimp only [seqS, thenS, blockS]) | (apply Wp.run; (dsimp only [List.map] <;> exact rfl); (exact rfl)) | (apply Wp.skip; dsimp only [seqS, thenS, blockS]) | (apply Wp.exit; dsimp only [seqS, thenS, blockS]; simp only [reduceIte]))
  (apply Wp.ret; (try dsimp only [seqS, thenS, blockS]); apply leave0; (exact rfl); (simp only [push_cast, seval] <;> (try simp (disch := omega) only [wrap_i64, wrap_u8, Int.add_sub_cancel]) <;> exact rfl); all_goals (try simp only [push_cast, seval]); (try rfl))
theorem take_get (stf : List Int) {i j : Nat} (h : j < i) : (stf.take i).getD j 0 = stf.getD j 0 := by
  simp only [List.getD_eq_getElem?_getD, List.getElem?_take, if_pos h]
theorem wrB_take {cs : List Ch} {ms : List Ma} {ls : List Bk} {stf : List Int} {i : Nat} (h : i < stf.length) : wrB cs ms ls (stf.take (i + 1)) = (!ldB cs ms (stf.getD i 0).toNat (ls.getD i bk0) || (List.range i).any fun k => decide (stf.getD k 0 = stf.getD i 0) && togB cs (ls.getD k bk0) (ls.getD i bk0)) := by
  have hl : (stf.take (i + 1)).length = i + 1 := by simp; omega
  unfold wrB
  rw [hl, Nat.add_sub_cancel, take_get stf (by omega)]
  congr 1
  rw [Bool.eq_iff_iff]
  simp only [List.any_eq_true, List.mem_range]
  constructor
  · rintro ⟨k, hk, h2⟩; rw [take_get stf (by omega)] at h2; exact ⟨k, hk, h2⟩
  · rintro ⟨k, hk, h2⟩; refine ⟨k, hk, ?_⟩; rw [take_get stf (by omega)]; exact h2
/-- the rows ahead of k that bar it -/
def barB (cs : List Ch) (ls : List Bk) (stf : List Int) (i : Nat) : Nat → Bool
  | 0 => false
  | k + 1 => barB cs ls stf i k || (decide (stf.getD k 0 = stf.getD i 0) && togB cs (ls.getD k bk0) (ls.getD i bk0))
theorem barB_any (cs : List Ch) (ls : List Bk) (stf : List Int) (i : Nat) : ∀ k, barB cs ls stf i k = (List.range k).any fun k => decide (stf.getD k 0 = stf.getD i 0) && togB cs (ls.getD k bk0) (ls.getD i bk0)
  | 0 => rfl
  | k + 1 => by rw [List.range_succ, List.any_append, ← barB_any cs ls stf i k]; simp [barB]
theorem CheckStaff_pure (cs : List Ch) (ms : List Ma) (cake : Int) (ls : List Bk) (stf : List Int) (hc : cs.length ≤ 9223372036854775807) (hm : ms.length ≤ 9223372036854775807) (hl : ls.length ≤ 9223372036854775807) (hs : stf.length ≤ 9223372036854775807) : Pure Try.prog 33 [houA cs ms cake, .lst 6 (ls.map bkA), .ints stf] (.tup [.int (csV cs ms cake ls stf).1, .int (csV cs ms cake ls stf).2]) := by
  have hck := check_pure cs ms cake ls hc hm hl
  unfold csV
  by_cases h1 : ckE cs ms cake ls = 0
  · rw [if_pos h1]
    rw [h1] at hck
    have hpw := PW.of_ck h1
    have hl20 := hpw.lv.l20
    have hcf := containsFuncI stf 64 [.ref [.lst 4 (cs.map chA), .lst 3 (ms.map maA), .int cake] 0] (fun m => !wi m 0 ((ms.length : Int) - 1)) (Enters.of Try.func64 rfl rfl) ⟨by simp only [push_cast], trivial⟩ (fun _ => ⟨rfl, rfl⟩) (fun m _ => checkStaff1_pure cs ms cake m hm) hs
    have hin : (stf.any fun m => !wi m 0 ((ms.length : Int) - 1)) = !inS ms stf := any_notK _ _
    rw [hin] at hcf
    by_cases h2 : stf.length = ls.length
    · have hle : decide ((stf.length : Int) = (ls.length : Int)) = true := decide_eq_true (by omega)
      cases h3 : inS ms stf with
      | false =>
        rw [h3] at hcf
        rw [if_neg (by simp)]
        (refine Spec.of_body Try.func33 rfl (by rw [Try.ntmps33]; simp) 0 (by simp) ?_; rw [Try.results33, Try.ntmps33]; simp only [entry, zipArgs, Nat.reduceAdd])
        repeat (first | apply Wp.seq | apply Wp.block | (apply Run.next; (simp only [push_cast, seval, hle] <;> (try simp (disch := omega) only [wrap_i64, wrap_u8, Int.add_sub_cancel]) <;> exact rfl); (focus ((try simp only [push_cast, seval, hle]) <;> (exact sideT)))) | (apply Run.nil; dsimp only [seqS, thenS, blockS]) | (apply Wp.run; (dsimp only [List.map] <;> exact rfl); (exact rfl)) | (apply Wp.skip; dsimp only [seqS, thenS, blockS]) | (apply Wp.exit; dsimp only [seqS, thenS, blockS]; simp only [reduceIte]))
        (apply Run.pureP; (simp only [push_cast, seval, hle] <;> (try simp (disch := omega) only [wrap_i64, wrap_u8, Int.add_sub_cancel]) <;> exact rfl); (exact (Enters.of Try.func39 rfl rfl)); (exact hck); (focus (simp only [push_cast, seval, hle] <;> first | trivial | assumption | (refine ⟨?_, ?_⟩ <;> assumption) | (simp; done))); (try dsimp only [putA, optG]))
        repeat (first | apply Wp.seq | apply Wp.block | (apply Run.next; (simp only [push_cast, seval, hle] <;> (try simp (disch := omega) only [wrap_i64, wrap_u8, Int.add_sub_cancel]) <;> exact rfl); (focus ((try simp only [push_cast, seval, hle]) <;> (exact sideT)))) | (apply Run.nil; dsimp only [seqS, thenS, blockS]) | (apply Wp.run; (dsimp only [List.map] <;> exact rfl); (exact rfl)) | (apply Wp.skip; dsimp only [seqS, thenS, blockS]) | (apply Wp.exit; dsimp only [seqS, thenS, blockS]; simp only [reduceIte]) | (apply Run.gtrue; (simp only [push_cast, seval, hle] <;> (try simp (disch := omega) only [wrap_i64, wrap_u8, Int.add_sub_cancel]) <;> exact rfl); (simp only [push_cast, seval, hle] <;> (try simp (disch := omega) only [wrap_i64, wrap_u8, Int.add_sub_cancel]) <;> exact rfl)) | (apply Run.gfalse (.bool false); (simp only [push_cast, seval, hle] <;> (try simp (disch := omega) only [wrap_i64, wrap_u8, Int.add_sub_cancel]) <;> exact rfl); dsimp only [S.put, optG]) | (apply Wp.condT; (simp only [push_cast, seval, hle] <;> (try simp (disch := omega) only [wrap_i64, wrap_u8, Int.add_sub_cancel]) <;> exact rfl)) | (apply Wp.condF; (simp only [push_cast, seval, hle] <;> (try simp (disch := omega) only [wrap_i64, wrap_u8, Int.add_sub_cancel]) <;> exact rfl)))
        (apply Run.pureW; (simp only [push_cast, seval, hle] <;> (try simp (disch := omega) only [wrap_i64, wrap_u8, Int.add_sub_cancel]) <;> exact rfl); (exact (Enters.of Try.func63 rfl rfl)); (exact hcf); (exact VwL.cons (Vw.self (by simp only [push_cast])) (VwL.cons (Vw.clo (VwL.cons (Vw.optr (sz := 3) rfl rfl (by simp [AV.cells]) (VwL.selfsK (by simp only [push_cast]))) VwL.nil)) VwL.nil)); (simp only [push_cast, seval, hle] <;> first | trivial | assumption | (refine ⟨?_, ?_⟩ <;> assumption) | (simp; done)); (try dsimp only [putA, optG]))
        repeat (first | apply Wp.seq | apply Wp.block | (apply Run.next; (simp only [push_cast, seval, hle] <;> (try simp (disch := omega) only [wrap_i64, wrap_u8, Int.add_sub_cancel]) <;> exact rfl); (focus ((try simp only [push_cast, seval, hle]) <;> (exact sideT)))) | (apply Run.nil; dsimp only [seqS, thenS, blockS]) | (apply Wp.run; (dsimp only [List.map] <;> exact rfl); (exact rfl)) | (apply Wp.skip; dsimp only [seqS, thenS, blockS]) | (apply Wp.exit; dsimp only [seqS, thenS, blockS]; simp only [reduceIte]) | (apply Run.gtrue; (simp only [push_cast, seval, hle] <;> (try simp (disch := omega) only [wrap_i64, wrap_u8, Int.add_sub_cancel]) <;> exact rfl); (simp only [push_cast, seval, hle] <;> (try simp (disch := omega) only [wrap_i64, wrap_u8, Int.add_sub_cancel]) <;> exact rfl)) | (apply Run.gfalse (.bool false); (simp only [push_cast, seval, hle] <;> (try simp (disch := omega) only [wrap_i64, wrap_u8, Int.add_sub_cancel]) <;> exact rfl); dsimp only [S.put, optG]) | (apply Wp.condT; (simp only [push_cast, seval, hle] <;> (try simp (disch := omega) only [wrap_i64, wrap_u8, Int.add_sub_cancel]) <;> exact rfl)) | (apply Wp.condF; (simp only [push_cast, seval, hle] <;> (try simp (disch := omega) only [wrap_i64, wrap_u8, Int.add_sub_cancel]) <;> exact rfl)))
        (apply Wp.ret; (try dsimp only [seqS, thenS, blockS]); apply leave0; (exact rfl); (simp only [push_cast, seval, hle] <;> (try simp (disch := omega) only [wrap_i64, wrap_u8, Int.add_sub_cancel]) <;> exact rfl); all_goals (try simp only [push_cast, seval, hle]); (try rfl))
      | true =>
        rw [h3] at hcf
        rw [if_pos ⟨h2, rfl⟩]
        have hmem : ∀ i, i < stf.length → 0 ≤ stf.getD i 0 ∧ stf.getD i 0 < ms.length := fun i hi => by
          unfold inS at h3
          rw [List.all_eq_true] at h3
          have := h3 _ (memI hi)
          rw [wi_iff] at this; omega
        (refine Spec.of_body Try.func33 rfl (by rw [Try.ntmps33]; simp) 0 (by simp) ?_; rw [Try.results33, Try.ntmps33]; simp only [entry, zipArgs, Nat.reduceAdd])
        repeat (first | apply Wp.seq | apply Wp.block | (apply Run.next; (simp only [push_cast, seval, hle] <;> (try simp (disch := omega) only [wrap_i64, wrap_u8, Int.add_sub_cancel]) <;> exact rfl); (focus ((try simp only [push_cast, seval, hle]) <;> (exact sideT)))) | (apply Run.nil; dsimp only [seqS, thenS, blockS]) | (apply Wp.run; (dsimp only [List.map] <;> exact rfl); (exact rfl)) | (apply Wp.skip; dsimp only [seqS, thenS, blockS]) | (apply Wp.exit; dsimp only [seqS, thenS, blockS]; simp only [reduceIte]))
        (apply Run.pureP; (simp only [push_cast, seval, hle] <;> (try simp (disch := omega) only [wrap_i64, wrap_u8, Int.add_sub_cancel]) <;> exact rfl); (exact (Enters.of Try.func39 rfl rfl)); (exact hck); (focus (simp only [push_cast, seval, hle] <;> first | trivial | assumption | (refine ⟨?_, ?_⟩ <;> assumption) | (simp; done))); (try dsimp only [putA, optG]))
        repeat (first | apply Wp.seq | apply Wp.block | (apply Run.next; (simp only [push_cast, seval, hle] <;> (try simp (disch := omega) only [wrap_i64, wrap_u8, Int.add_sub_cancel]) <;> exact rfl); (focus ((try simp only [push_cast, seval, hle]) <;> (exact sideT)))) | (apply Run.nil; dsimp only [seqS, thenS, blockS]) | (apply Wp.run; (dsimp only [List.map] <;> exact rfl); (exact rfl)) | (apply Wp.skip; dsimp only [seqS, thenS, blockS]) | (apply Wp.exit; dsimp only [seqS, thenS, blockS]; simp only [reduceIte]) | (apply Run.gtrue; (simp only [push_cast, seval, hle] <;> (try simp (disch := omega) only [wrap_i64, wrap_u8, Int.add_sub_cancel]) <;> exact rfl); (simp only [push_cast, seval, hle] <;> (try simp (disch := omega) only [wrap_i64, wrap_u8, Int.add_sub_cancel]) <;> exact rfl)) | (apply Run.gfalse (.bool false); (simp only [push_cast, seval, hle] <;> (try simp (disch := omega) only [wrap_i64, wrap_u8, Int.add_sub_cancel]) <;> exact rfl); dsimp only [S.put, optG]) | (apply Wp.condT; (simp only [push_cast, seval, hle] <;> (try simp (disch := omega) only [wrap_i64, wrap_u8, Int.add_sub_cancel]) <;> exact rfl)) | (apply Wp.condF; (simp only [push_cast, seval, hle] <;> (try simp (disch := omega) only [wrap_i64, wrap_u8, Int.add_sub_cancel]) <;> exact rfl)))
        (apply Run.pureW; (simp only [push_cast, seval, hle] <;> (try simp (disch := omega) only [wrap_i64, wrap_u8, Int.add_sub_cancel]) <;> exact rfl); (exact (Enters.of Try.func63 rfl rfl)); (exact hcf); (exact VwL.cons (Vw.self (by simp only [push_cast])) (VwL.cons (Vw.clo (VwL.cons (Vw.optr (sz := 3) rfl rfl (by simp [AV.cells]) (VwL.selfsK (by simp only [push_cast]))) VwL.nil)) VwL.nil)); (simp only [push_cast, seval, hle] <;> first | trivial | assumption | (refine ⟨?_, ?_⟩ <;> assumption) | (simp; done)); (try dsimp only [putA, optG]))
        repeat (first | apply Wp.seq | apply Wp.block | (apply Run.next; (simp only [push_cast, seval, hle] <;> (try simp (disch := omega) only [wrap_i64, wrap_u8, Int.add_sub_cancel]) <;> exact rfl); (focus ((try simp only [push_cast, seval, hle]) <;> (exact sideT)))) | (apply Run.nil; dsimp only [seqS, thenS, blockS]) | (apply Wp.run; (dsimp only [List.map] <;> exact rfl); (exact rfl)) | (apply Wp.skip; dsimp only [seqS, thenS, blockS]) | (apply Wp.exit; dsimp only [seqS, thenS, blockS]; simp only [reduceIte]) | (apply Run.gtrue; (simp only [push_cast, seval, hle] <;> (try simp (disch := omega) only [wrap_i64, wrap_u8, Int.add_sub_cancel]) <;> exact rfl); (simp only [push_cast, seval, hle] <;> (try simp (disch := omega) only [wrap_i64, wrap_u8, Int.add_sub_cancel]) <;> exact rfl)) | (apply Run.gfalse (.bool false); (simp only [push_cast, seval, hle] <;> (try simp (disch := omega) only [wrap_i64, wrap_u8, Int.add_sub_cancel]) <;> exact rfl); dsimp only [S.put, optG]) | (apply Wp.condT; (simp only [push_cast, seval, hle] <;> (try simp (disch := omega) only [wrap_i64, wrap_u8, Int.add_sub_cancel]) <;> exact rfl)) | (apply Wp.condF; (simp only [push_cast, seval, hle] <;> (try simp (disch := omega) only [wrap_i64, wrap_u8, Int.add_sub_cancel]) <;> exact rfl)))
        unfold csW
        generalize hf : (fun i => if wrB cs ms ls (stf.take (i + 1)) = true then some i else none) = f
        have hfi : ∀ i, f i = if wrB cs ms ls (stf.take (i + 1)) = true then some i else none := fun i => by rw [← hf]
        refine Wp.loop (fun (i : Nat) => { t := [(1, .lst 6 (ls.map bkA)), (2, .ints stf), (3, .optr 0 0 0 0), (29, .ints stf), (30, .int stf.length), (31, .int i)], m := [⟨0, .row 3 [houA cs ms cake]⟩], n := 77 }) (fun i => i ≤ stf.length ∧ ∀ j, j < i → f j = none) (fun i => stf.length - i) 0 ?_ ?_ ?_
        · (refine Le.of ?_ ?_ rfl rfl <;> (try simp only [push_cast, seval]) <;> (try (with_reducible rfl)))
          all_goals rfl
        · simp
        · rintro i ⟨hi1, hi2⟩
          repeat (first | apply Wp.seq | apply Wp.block | (apply Run.next; (simp only [push_cast, seval] <;> (try simp (disch := omega) only [wrap_i64, wrap_u8, Int.add_sub_cancel]) <;> exact rfl); (focus ((try simp only [push_cast, seval]) <;> (exact sideT)))) | (apply Run.nil; dsimp only [seqS, thenS, blockS]) | (apply Wp.run; (dsimp only [List.map] <;> exact rfl); (exact rfl)) | (apply Wp.skip; dsimp only [seqS, thenS, blockS]) | (apply Wp.exit; dsimp only [seqS, thenS, blockS]; simp only [reduceIte]))
          (apply Wp.cond; (simp only [push_cast, seval] <;> (try simp (disch := omega) only [wrap_i64, wrap_u8, Int.add_sub_cancel]) <;> exact rfl))
          · intro hc1
            simp only [decide_eq_true_eq, Int.ofNat_lt] at hc1
            have hxb := hpw.lv.bv i (by omega)
            have hxt := hpw.tg i (by omega)
            have hzm := hmem i hc1
            have hld := leads_pure hpw.hv (stf.getD i 0) hzm hxb hxt
            have hpx := plays_pure (ms := ms) hpw.hv hxb
            have hfw := hfi i
            rw [wrB_take hc1, ← barB_any] at hfw
            have hbs : ∀ k, barB cs ls stf i (k + 1) = (barB cs ls stf i k || (decide (stf.getD k 0 = stf.getD i 0) && togB cs (ls.getD k bk0) (ls.getD i bk0))) := fun _ => rfl
            have hb0 : barB cs ls stf i 0 = false := rfl
            generalize barB cs ls stf i = bar at hfw hbs hb0
            have htg : ∀ k, togB cs (ls.getD k bk0) (ls.getD i bk0) = (decide ((ls.getD k bk0).st < endG cs (ls.getD i bk0)) && decide ((ls.getD i bk0).st < endG cs (ls.getD k bk0))) := fun _ => rfl
            generalize hx : ls.getD i bk0 = x at hxb hxt hld hfw hpx hbs htg
            generalize hz : stf.getD i 0 = z at hzm hld hfw hbs
            generalize endG cs x = eg at hpx htg
            generalize hL : ldB cs ms z.toNat x = L at hld hfw
            repeat (first | apply Wp.seq | apply Wp.block | (apply Run.next; (simp only [push_cast, seval, hx, hz] <;> (try simp (disch := omega) only [wrap_i64, wrap_u8, Int.add_sub_cancel]) <;> exact rfl); (focus ((try simp only [push_cast, seval, hx, hz]) <;> (exact sideT)))) | (apply Run.nil; dsimp only [seqS, thenS, blockS]) | (apply Wp.run; (dsimp only [List.map] <;> exact rfl); (exact rfl)) | (apply Wp.skip; dsimp only [seqS, thenS, blockS]) | (apply Wp.exit; dsimp only [seqS, thenS, blockS]; simp only [reduceIte]))
            (apply Wp.runD 8 mixed; (dsimp only [List.map] <;> exact rfl); (exact rfl); (kernel_rfl); (dsimp only [List.take] <;> exact rfl); (dsimp only [List.drop] <;> exact rfl); (((repeat (apply Abn.next; (simp only [push_cast, seval, hx, hz] <;> (try simp (disch := omega) only [wrap_i64, wrap_u8, Int.add_sub_cancel]) <;> exact rfl); (focus ((try simp only [push_cast, seval, hx, hz]) <;> (exact sideT))))); (apply Abn.pureP; (simp only [push_cast, seval, hx, hz] <;> (try simp (disch := omega) only [wrap_i64, wrap_u8, Int.add_sub_cancel]) <;> exact rfl); (exact (Enters.of Try.func66 rfl rfl)); (exact hld); (focus (simp only [push_cast, seval, hx, hz] <;> first | trivial | assumption | (refine ⟨?_, ?_⟩ <;> assumption) | (simp; done))); (try dsimp only [putA, optG])); (repeat (apply Abn.next; (simp only [push_cast, seval, hx, hz] <;> (try simp (disch := omega) only [wrap_i64, wrap_u8, Int.add_sub_cancel]) <;> exact rfl); (focus ((try simp only [push_cast, seval, hx, hz]) <;> (exact sideT)))))); exact Abn.nil))
            repeat (first | apply Wp.seq | apply Wp.block | (apply Run.next; (simp only [push_cast, seval, hx, hz] <;> (try simp (disch := omega) only [wrap_i64, wrap_u8, Int.add_sub_cancel]) <;> exact rfl); (focus ((try simp only [push_cast, seval, hx, hz]) <;> (exact sideT)))) | (apply Run.nil; dsimp only [seqS, thenS, blockS]) | (apply Wp.run; (dsimp only [List.map] <;> exact rfl); (exact rfl)) | (apply Wp.skip; dsimp only [seqS, thenS, blockS]) | (apply Wp.exit; dsimp only [seqS, thenS, blockS]; simp only [reduceIte]))
            refine Wp.loop (fun (k : Nat) => { t := [(1, .lst 6 (ls.map bkA)), (2, .ints stf), (3, .optr 0 0 0 0), (29, .ints stf), (30, .int stf.length), (31, .int i), (9, .int i), (10, .int z), (11, .bool (L && !bar k)), (43, .int i), (44, .int k)], m := [⟨0, .row 3 [houA cs ms cake]⟩], n := 77 }) (fun k => k ≤ i) (fun k => i - k) 0 ?_ ?_ ?_
            · rw [hb0, Bool.not_false, Bool.and_true]
              (refine Le.of ?_ ?_ rfl rfl <;> (try simp only [push_cast, seval, hx, hz]) <;> (try (with_reducible rfl)))
              all_goals rfl
            · simp
            · intro k hk
              repeat (first | apply Wp.seq | apply Wp.block | (apply Run.next; (simp only [push_cast, seval, hx, hz] <;> (try simp (disch := omega) only [wrap_i64, wrap_u8, Int.add_sub_cancel]) <;> exact rfl); (focus ((try simp only [push_cast, seval, hx, hz]) <;> (exact sideT)))) | (apply Run.nil; dsimp only [seqS, thenS, blockS]) | (apply Wp.run; (dsimp only [List.map] <;> exact rfl); (exact rfl)) | (apply Wp.skip; dsimp only [seqS, thenS, blockS]) | (apply Wp.exit; dsimp only [seqS, thenS, blockS]; simp only [reduceIte]))
              (apply Wp.cond; (simp only [push_cast, seval, hx, hz] <;> (try simp (disch := omega) only [wrap_i64, wrap_u8, Int.add_sub_cancel]) <;> exact rfl))
              · intro hc2
                simp only [decide_eq_true_eq, Int.ofNat_lt] at hc2
                have hyb := hpw.lv.bv k (by omega)
                have hpy := plays_pure (ms := ms) hpw.hv hyb
                have hbk := hbs k
                have htk := htg k
                generalize hy : ls.getD k bk0 = y at hyb hpy hbk htk
                generalize hu : stf.getD k 0 = u at hbk
                generalize endG cs y = ey at hpy htk
                generalize hbk0 : bar k = bk at hbk
                rw [htk] at hbk
                repeat (first | apply Wp.seq | apply Wp.block | (apply Run.next; (simp only [push_cast, seval, hx, hz, hy, hu] <;> (try simp (disch := omega) only [wrap_i64, wrap_u8, Int.add_sub_cancel]) <;> exact rfl); (focus ((try simp only [push_cast, seval, hx, hz, hy, hu]) <;> (exact sideT)))) | (apply Run.nil; dsimp only [seqS, thenS, blockS]) | (apply Wp.run; (dsimp only [List.map] <;> exact rfl); (exact rfl)) | (apply Wp.skip; dsimp only [seqS, thenS, blockS]) | (apply Wp.exit; dsimp only [seqS, thenS, blockS]; simp only [reduceIte]))
                (apply Wp.runD 26 mixed; (dsimp only [List.map] <;> exact rfl); (exact rfl); (kernel_rfl); (dsimp only [List.take] <;> exact rfl); (dsimp only [List.drop] <;> exact rfl); (((repeat (apply Abn.next; (simp only [push_cast, seval, hx, hz, hy, hu] <;> (try simp (disch := omega) only [wrap_i64, wrap_u8, Int.add_sub_cancel]) <;> exact rfl); (focus ((try simp only [push_cast, seval, hx, hz, hy, hu]) <;> (exact sideT))))); (apply Abn.pureP; (simp only [push_cast, seval, hx, hz, hy, hu] <;> (try simp (disch := omega) only [wrap_i64, wrap_u8, Int.add_sub_cancel]) <;> exact rfl); (exact (Enters.of Try.func67 rfl rfl)); (exact hpy); (focus (simp only [push_cast, seval, hx, hz, hy, hu] <;> first | trivial | assumption | (refine ⟨?_, ?_⟩ <;> assumption) | (simp; done))); (try dsimp only [putA, optG])); (repeat (apply Abn.next; (simp only [push_cast, seval, hx, hz, hy, hu] <;> (try simp (disch := omega) only [wrap_i64, wrap_u8, Int.add_sub_cancel]) <;> exact rfl); (focus ((try simp only [push_cast, seval, hx, hz, hy, hu]) <;> (exact sideT))))); (apply Abn.pureP; (simp only [push_cast, seval, hx, hz, hy, hu] <;> (try simp (disch := omega) only [wrap_i64, wrap_u8, Int.add_sub_cancel]) <;> exact rfl); (exact (Enters.of Try.func67 rfl rfl)); (exact hpx); (focus (simp only [push_cast, seval, hx, hz, hy, hu] <;> first | trivial | assumption | (refine ⟨?_, ?_⟩ <;> assumption) | (simp; done))); (try dsimp only [putA, optG])); (repeat (apply Abn.next; (simp only [push_cast, seval, hx, hz, hy, hu] <;> (try simp (disch := omega) only [wrap_i64, wrap_u8, Int.add_sub_cancel]) <;> exact rfl); (focus ((try simp only [push_cast, seval, hx, hz, hy, hu]) <;> (exact sideT))))); (apply Abn.pureP; (simp only [push_cast, seval, hx, hz, hy, hu] <;> (try simp (disch := omega) only [wrap_i64, wrap_u8, Int.add_sub_cancel]) <;> exact rfl); (exact (Enters.of Try.func68 rfl rfl)); (exact meets_pure _ _ _ _); (focus (simp only [push_cast, seval, hx, hz, hy, hu] <;> first | trivial | assumption | (refine ⟨?_, ?_⟩ <;> assumption) | (simp; done))); (try dsimp only [putA, optG])); (repeat (apply Abn.next; (simp only [push_cast, seval, hx, hz, hy, hu] <;> (try simp (disch := omega) only [wrap_i64, wrap_u8, Int.add_sub_cancel]) <;> exact rfl); (focus ((try simp only [push_cast, seval, hx, hz, hy, hu]) <;> (exact sideT)))))); exact Abn.nil))
                repeat (first | apply Wp.seq | apply Wp.block | (apply Run.next; (simp only [push_cast, seval, hx, hz, hy, hu] <;> (try simp (disch := omega) only [wrap_i64, wrap_u8, Int.add_sub_cancel]) <;> exact rfl); (focus ((try simp only [push_cast, seval, hx, hz, hy, hu]) <;> (exact sideT)))) | (apply Run.nil; dsimp only [seqS, thenS, blockS]) | (apply Wp.run; (dsimp only [List.map] <;> exact rfl); (exact rfl)) | (apply Wp.skip; dsimp only [seqS, thenS, blockS]) | (apply Wp.exit; dsimp only [seqS, thenS, blockS]; simp only [reduceIte]))
                refine ⟨k + 1, ?_, by omega, by omega⟩
                rw [hbk]
                (refine Le.of ?_ ?_ rfl rfl <;> (try simp only [push_cast, seval, hx, hz, hy, hu]) <;> (try (with_reducible rfl)))
                all_goals (generalize decide (u = z) = p1; generalize decide (y.st < eg) = p2; generalize decide (x.st < ey) = p3; cases L <;> cases bk <;> cases p1 <;> cases p2 <;> cases p3 <;> rfl)
              · intro hc2
                simp only [decide_eq_false_iff_not, Int.ofNat_lt] at hc2
                obtain rfl : k = i := by omega
                generalize hbk0 : bar k = bk at hfw
                repeat (first | apply Wp.seq | apply Wp.block | (apply Run.next; (simp only [push_cast, seval, hx, hz] <;> (try simp (disch := omega) only [wrap_i64, wrap_u8, Int.add_sub_cancel]) <;> exact rfl); (focus ((try simp only [push_cast, seval, hx, hz]) <;> (exact sideT)))) | (apply Run.nil; dsimp only [seqS, thenS, blockS]) | (apply Wp.run; (dsimp only [List.map] <;> exact rfl); (exact rfl)) | (apply Wp.skip; dsimp only [seqS, thenS, blockS]) | (apply Wp.exit; dsimp only [seqS, thenS, blockS]; simp only [reduceIte]))
                (apply Wp.cond; (simp only [push_cast, seval, hx, hz] <;> (try simp (disch := omega) only [wrap_i64, wrap_u8, Int.add_sub_cancel]) <;> exact rfl))
                · intro h4
                  have h5 : f k = some k := by rw [hfw]; cases L <;> cases bk <;> simp_all
                  repeat (first | apply Wp.seq | apply Wp.block | (apply Run.next; (simp only [push_cast, seval, hx, hz] <;> (try simp (disch := omega) only [wrap_i64, wrap_u8, Int.add_sub_cancel]) <;> exact rfl); (focus ((try simp only [push_cast, seval, hx, hz]) <;> (exact sideT)))) | (apply Run.nil; dsimp only [seqS, thenS, blockS]) | (apply Wp.run; (dsimp only [List.map] <;> exact rfl); (exact rfl)) | (apply Wp.skip; dsimp only [seqS, thenS, blockS]) | (apply Wp.exit; dsimp only [seqS, thenS, blockS]; simp only [reduceIte]))
                  (apply Wp.ret; (try dsimp only [seqS, thenS, blockS]); apply leave0; (exact rfl); (simp only [push_cast, seval, hx, hz] <;> (try simp (disch := omega) only [wrap_i64, wrap_u8, Int.add_sub_cancel]) <;> exact rfl); all_goals (try simp only [push_cast, seval, hx, hz]); (try rfl))
                  rw [fsM_at (by omega) hi2 h5]
                · intro h4
                  have h5 : f k = none := by rw [hfw]; cases L <;> cases bk <;> simp_all
                  repeat (first | apply Wp.seq | apply Wp.block | (apply Run.next; (simp only [push_cast, seval, hx, hz] <;> (try simp (disch := omega) only [wrap_i64, wrap_u8, Int.add_sub_cancel]) <;> exact rfl); (focus ((try simp only [push_cast, seval, hx, hz]) <;> (exact sideT)))) | (apply Run.nil; dsimp only [seqS, thenS, blockS]) | (apply Wp.run; (dsimp only [List.map] <;> exact rfl); (exact rfl)) | (apply Wp.skip; dsimp only [seqS, thenS, blockS]) | (apply Wp.exit; dsimp only [seqS, thenS, blockS]; simp only [reduceIte]))
                  refine ⟨k + 1, ?_, ⟨by omega, fun j hj => ?_⟩, by omega⟩
                  · (refine Le.of ?_ ?_ rfl rfl <;> (try simp only [push_cast, seval, hx, hz]) <;> (try (with_reducible rfl)))
                  · by_cases hjk : j = k
                    · subst hjk; exact h5
                    · exact hi2 j (by omega)
          · intro hc1
            simp only [decide_eq_false_iff_not, Int.ofNat_lt] at hc1
            obtain rfl : i = stf.length := by omega
            repeat (first | apply Wp.seq | apply Wp.block | (apply Run.next; (simp only [push_cast, seval] <;> (try simp (disch := omega) only [wrap_i64, wrap_u8, Int.add_sub_cancel]) <;> exact rfl); (focus ((try simp only [push_cast, seval]) <;> (exact sideT)))) | (apply Run.nil; dsimp only [seqS, thenS, blockS]) | (apply Wp.run; (dsimp only [List.map] <;> exact rfl); (exact rfl)) | (apply Wp.skip; dsimp only [seqS, thenS, blockS]) | (apply Wp.exit; dsimp only [seqS, thenS, blockS]; simp only [reduceIte]))
            (apply Wp.ret; (try dsimp only [seqS, thenS, blockS]); apply leave0; (exact rfl); (simp only [push_cast, seval] <;> (try simp (disch := omega) only [wrap_i64, wrap_u8, Int.add_sub_cancel]) <;> exact rfl); all_goals (try simp only [push_cast, seval]); (try rfl))
            rw [fsM_none.2 (by rw [← h2]; exact hi2)]
    · have hle : decide ((stf.length : Int) = (ls.length : Int)) = false := decide_eq_false (by omega)
      rw [if_neg (fun h => h2 h.1)]
      (refine Spec.of_body Try.func33 rfl (by rw [Try.ntmps33]; simp) 0 (by simp) ?_; rw [Try.results33, Try.ntmps33]; simp only [entry, zipArgs, Nat.reduceAdd])
      repeat (first | apply Wp.seq | apply Wp.block | (apply Run.next; (simp only [push_cast, seval, hle] <;> (try simp (disch := omega) only [wrap_i64, wrap_u8, Int.add_sub_cancel]) <;> exact rfl); (focus ((try simp only [push_cast, seval, hle]) <;> (exact sideT)))) | (apply Run.nil; dsimp only [seqS, thenS, blockS]) | (apply Wp.run; (dsimp only [List.map] <;> exact rfl); (exact rfl)) | (apply Wp.skip; dsimp only [seqS, thenS, blockS]) | (apply Wp.exit; dsimp only [seqS, thenS, blockS]; simp only [reduceIte]))
      (apply Run.pureP; (simp only [push_cast, seval, hle] <;> (try simp (disch := omega) only [wrap_i64, wrap_u8, Int.add_sub_cancel]) <;> exact rfl); (exact (Enters.of Try.func39 rfl rfl)); (exact hck); (focus (simp only [push_cast, seval, hle] <;> first | trivial | assumption | (refine ⟨?_, ?_⟩ <;> assumption) | (simp; done))); (try dsimp only [putA, optG]))
      repeat (first | apply Wp.seq | apply Wp.block | (apply Run.next; (simp only [push_cast, seval, hle] <;> (try simp (disch := omega) only [wrap_i64, wrap_u8, Int.add_sub_cancel]) <;> exact rfl); (focus ((try simp only [push_cast, seval, hle]) <;> (exact sideT)))) | (apply Run.nil; dsimp only [seqS, thenS, blockS]) | (apply Wp.run; (dsimp only [List.map] <;> exact rfl); (exact rfl)) | (apply Wp.skip; dsimp only [seqS, thenS, blockS]) | (apply Wp.exit; dsimp only [seqS, thenS, blockS]; simp only [reduceIte]) | (apply Run.gtrue; (simp only [push_cast, seval, hle] <;> (try simp (disch := omega) only [wrap_i64, wrap_u8, Int.add_sub_cancel]) <;> exact rfl); (simp only [push_cast, seval, hle] <;> (try simp (disch := omega) only [wrap_i64, wrap_u8, Int.add_sub_cancel]) <;> exact rfl)) | (apply Run.gfalse (.bool false); (simp only [push_cast, seval, hle] <;> (try simp (disch := omega) only [wrap_i64, wrap_u8, Int.add_sub_cancel]) <;> exact rfl); dsimp only [S.put, optG]) | (apply Wp.condT; (simp only [push_cast, seval, hle] <;> (try simp (disch := omega) only [wrap_i64, wrap_u8, Int.add_sub_cancel]) <;> exact rfl)) | (apply Wp.condF; (simp only [push_cast, seval, hle] <;> (try simp (disch := omega) only [wrap_i64, wrap_u8, Int.add_sub_cancel]) <;> exact rfl)))
      (apply Wp.ret; (try dsimp only [seqS, thenS, blockS]); apply leave0; (exact rfl); (simp only [push_cast, seval, hle] <;> (try simp (disch := omega) only [wrap_i64, wrap_u8, Int.add_sub_cancel]) <;> exact rfl); all_goals (try simp only [push_cast, seval, hle]); (try rfl))
  · rw [if_neg h1]
    have hne : decide (ckE cs ms cake ls = 0) = false := decide_eq_false h1
    (refine Spec.of_body Try.func33 rfl (by rw [Try.ntmps33]; simp) 0 (by simp) ?_; rw [Try.results33, Try.ntmps33]; simp only [entry, zipArgs, Nat.reduceAdd])
    repeat (first | apply Wp.seq | apply Wp.block | (apply Run.next; (simp only [push_cast, seval, hne] <;> (try simp (disch := omega) only [wrap_i64, wrap_u8, Int.add_sub_cancel]) <;> exact rfl); (focus ((try simp only [push_cast, seval, hne]) <;> (exact sideT)))) | (apply Run.nil; dsimp only [seqS, thenS, blockS]) | (apply Wp.run; (dsimp only [List.map] <;> exact rfl); (exact rfl)) | (apply Wp.skip; dsimp only [seqS, thenS, blockS]) | (apply Wp.exit; dsimp only [seqS, thenS, blockS]; simp only [reduceIte]))
    (apply Run.pureP; (simp only [push_cast, seval, hne] <;> (try simp (disch := omega) only [wrap_i64, wrap_u8, Int.add_sub_cancel]) <;> exact rfl); (exact (Enters.of Try.func39 rfl rfl)); (exact hck); (focus (simp only [push_cast, seval, hne] <;> first | trivial | assumption | (refine ⟨?_, ?_⟩ <;> assumption) | (simp; done))); (try dsimp only [putA, optG]))
    repeat (first | apply Wp.seq | apply Wp.block | (apply Run.next; (simp only [push_cast, seval, hne] <;> (try simp (disch := omega) only [wrap_i64, wrap_u8, Int.add_sub_cancel]) <;> exact rfl); (focus ((try simp only [push_cast, seval, hne]) <;> (exact sideT)))) | (apply Run.nil; dsimp only [seqS, thenS, blockS]) | (apply Wp.run; (dsimp only [List.map] <;> exact rfl); (exact rfl)) | (apply Wp.skip; dsimp only [seqS, thenS, blockS]) | (apply Wp.exit; dsimp only [seqS, thenS, blockS]; simp only [reduceIte]) | (apply Run.gtrue; (simp only [push_cast, seval, hne] <;> (try simp (disch := omega) only [wrap_i64, wrap_u8, Int.add_sub_cancel]) <;> exact rfl); (simp only [push_cast, seval, hne] <;> (try simp (disch := omega) only [wrap_i64, wrap_u8, Int.add_sub_cancel]) <;> exact rfl)) | (apply Run.gfalse (.bool false); (simp only [push_cast, seval, hne] <;> (try simp (disch := omega) only [wrap_i64, wrap_u8, Int.add_sub_cancel]) <;> exact rfl); dsimp only [S.put, optG]) | (apply Wp.condT; (simp only [push_cast, seval, hne] <;> (try simp (disch := omega) only [wrap_i64, wrap_u8, Int.add_sub_cancel]) <;> exact rfl)) | (apply Wp.condF; (simp only [push_cast, seval, hne] <;> (try simp (disch := omega) only [wrap_i64, wrap_u8, Int.add_sub_cancel]) <;> exact rfl)))
    (apply Wp.ret; (try dsimp only [seqS, thenS, blockS]); apply leave0; (exact rfl); (simp only [push_cast, seval, hne] <;> (try simp (disch := omega) only [wrap_i64, wrap_u8, Int.add_sub_cancel]) <;> exact rfl); all_goals (try simp only [push_cast, seval, hne]); (try rfl))
end Go.Proofs.Try
set_option maxHeartbeats 8000000
namespace Go.Proofs.Try
open Go.Vg
theorem sameInts_pure (a b : List Int) : Pure Try.prog 32 [.ints a, .ints b] (.bool (decide (a = b))) := by
  (refine Spec.of_body Try.func32 rfl (by rw [Try.ntmps32]; simp) 0 (by simp) ?_; rw [Try.results32, Try.ntmps32]; simp only [entry, zipArgs, Nat.reduceAdd])
  apply Wp.len 0; (simp only [push_cast, seval] <;> (try simp (disch := omega) only [wrap_i64, wrap_u8, Int.add_sub_cancel]) <;> exact rfl)
  intro hlen
  simp only [List.length_map] at hlen
  repeat (first | apply Wp.seq | apply Wp.block | (apply Run.next; (simp only [push_cast, seval] <;> (try simp (disch := omega) only [wrap_i64, wrap_u8, Int.add_sub_cancel]) <;> exact rfl); (focus ((try simp only [push_cast, seval]) <;> (exact sideT)))) | (apply Run.nil; dsimp only [seqS, thenS, blockS]) | (apply Wp.run; (dsimp only [List.map] <;> exact rfl); (exact rfl)) | (apply Wp.skip; dsimp only [seqS, thenS, blockS]) | (apply Wp.exit; dsimp only [seqS, thenS, blockS]; simp only [reduceIte]))
  (apply Wp.cond; (simp only [push_cast, seval] <;> (try simp (disch := omega) only [wrap_i64, wrap_u8, Int.add_sub_cancel]) <;> exact rfl))
  · (intro hc; try simp only [decide_eq_true_eq, decide_eq_false_iff_not, Bool.and_eq_true, Bool.or_eq_true, Bool.not_eq_true, Bool.not_eq_false, Bool.not_eq_true', Bool.not_eq_false', Bool.and_eq_false_iff, Bool.or_eq_false_iff, Int.not_lt, Int.not_le, Int.ofNat_lt, Int.ofNat_le] at hc)
    repeat (first | apply Wp.seq | apply Wp.block | (apply Run.next; (simp only [push_cast, seval] <;> (try simp (disch := omega) only [wrap_i64, wrap_u8, Int.add_sub_cancel]) <;> exact rfl); (focus ((try simp only [push_cast, seval]) <;> (exact sideT)))) | (apply Run.nil; dsimp only [seqS, thenS, blockS]) | (apply Wp.run; (dsimp only [List.map] <;> exact rfl); (exact rfl)) | (apply Wp.skip; dsimp only [seqS, thenS, blockS]) | (apply Wp.exit; dsimp only [seqS, thenS, blockS]; simp only [reduceIte]))
    (apply Wp.ret; (try dsimp only [seqS, thenS, blockS]); apply leave0; (exact rfl); (simp only [push_cast, seval] <;> (try simp (disch := omega) only [wrap_i64, wrap_u8, Int.add_sub_cancel]) <;> exact rfl); all_goals (try simp only [push_cast, seval]); (try rfl))
    rw [decide_eq_false]
    intro h
    rw [h] at hc
    exact hc rfl
  · (intro hc; try simp only [decide_eq_true_eq, decide_eq_false_iff_not, Bool.and_eq_true, Bool.or_eq_true, Bool.not_eq_true, Bool.not_eq_false, Bool.not_eq_true', Bool.not_eq_false', Bool.and_eq_false_iff, Bool.or_eq_false_iff, Int.not_lt, Int.not_le, Int.ofNat_lt, Int.ofNat_le] at hc)
    repeat (first | apply Wp.seq | apply Wp.block | (apply Run.next; (simp only [push_cast, seval] <;> (try simp (disch := omega) only [wrap_i64, wrap_u8, Int.add_sub_cancel]) <;> exact rfl); (focus ((try simp only [push_cast, seval]) <;> (exact sideT)))) | (apply Run.nil; dsimp only [seqS, thenS, blockS]) | (apply Wp.run; (dsimp only [List.map] <;> exact rfl); (exact rfl)) | (apply Wp.skip; dsimp only [seqS, thenS, blockS]) | (apply Wp.exit; dsimp only [seqS, thenS, blockS]; simp only [reduceIte]))
    refine Wp.loop (fun k : Nat => { t := [(0, .ints a), (1, .ints b), (5, .int k)], m := [], n := 26 }) (fun k => k ≤ a.length ∧ ∀ j, j < k → a.getD j 0 = b.getD j 0) (fun k => a.length - k) 0 ?_ ?_ ?_
    · (refine Le.of ?_ ?_ rfl rfl <;> (try simp only [push_cast, seval]) <;> (try (with_reducible rfl)))
    · simp
    · rintro k ⟨hk1, hk2⟩
      repeat (first | apply Wp.seq | apply Wp.block | (apply Run.next; (simp only [push_cast, seval] <;> (try simp (disch := omega) only [wrap_i64, wrap_u8, Int.add_sub_cancel]) <;> exact rfl); (focus ((try simp only [push_cast, seval]) <;> (exact sideT)))) | (apply Run.nil; dsimp only [seqS, thenS, blockS]) | (apply Wp.run; (dsimp only [List.map] <;> exact rfl); (exact rfl)) | (apply Wp.skip; dsimp only [seqS, thenS, blockS]) | (apply Wp.exit; dsimp only [seqS, thenS, blockS]; simp only [reduceIte]))
      (apply Wp.cond; (simp only [push_cast, seval] <;> (try simp (disch := omega) only [wrap_i64, wrap_u8, Int.add_sub_cancel]) <;> exact rfl))
      · (intro hc; try simp only [decide_eq_true_eq, decide_eq_false_iff_not, Bool.and_eq_true, Bool.or_eq_true, Bool.not_eq_true, Bool.not_eq_false, Bool.not_eq_true', Bool.not_eq_false', Bool.and_eq_false_iff, Bool.or_eq_false_iff, Int.not_lt, Int.not_le, Int.ofNat_lt, Int.ofNat_le] at hc)
        repeat (first | apply Wp.seq | apply Wp.block | (apply Run.next; (simp only [push_cast, seval] <;> (try simp (disch := omega) only [wrap_i64, wrap_u8, Int.add_sub_cancel]) <;> exact rfl); (focus ((try simp only [push_cast, seval]) <;> (exact sideT)))) | (apply Run.nil; dsimp only [seqS, thenS, blockS]) | (apply Wp.run; (dsimp only [List.map] <;> exact rfl); (exact rfl)) | (apply Wp.skip; dsimp only [seqS, thenS, blockS]) | (apply Wp.exit; dsimp only [seqS, thenS, blockS]; simp only [reduceIte]))
        (apply Wp.runD 9 mixed; (dsimp only [List.map] <;> exact rfl); (exact rfl); (kernel_rfl); (dsimp only [List.take] <;> exact rfl); (dsimp only [List.drop] <;> exact rfl); (((repeat (apply Abn.next; (simp only [push_cast, seval] <;> (try simp (disch := omega) only [wrap_i64, wrap_u8, Int.add_sub_cancel]) <;> exact rfl); (focus ((try simp only [push_cast, seval]) <;> (exact sideT)))))); exact Abn.nil))
        repeat (first | apply Wp.seq | apply Wp.block | (apply Run.next; (simp only [push_cast, seval] <;> (try simp (disch := omega) only [wrap_i64, wrap_u8, Int.add_sub_cancel]) <;> exact rfl); (focus ((try simp only [push_cast, seval]) <;> (exact sideT)))) | (apply Run.nil; dsimp only [seqS, thenS, blockS]) | (apply Wp.run; (dsimp only [List.map] <;> exact rfl); (exact rfl)) | (apply Wp.skip; dsimp only [seqS, thenS, blockS]) | (apply Wp.exit; dsimp only [seqS, thenS, blockS]; simp only [reduceIte]))
        (apply Wp.cond; (simp only [push_cast, seval] <;> (try simp (disch := omega) only [wrap_i64, wrap_u8, Int.add_sub_cancel]) <;> exact rfl))
        · intro h2
          repeat (first | apply Wp.seq | apply Wp.block | (apply Run.next; (simp only [push_cast, seval] <;> (try simp (disch := omega) only [wrap_i64, wrap_u8, Int.add_sub_cancel]) <;> exact rfl); (focus ((try simp only [push_cast, seval]) <;> (exact sideT)))) | (apply Run.nil; dsimp only [seqS, thenS, blockS]) | (apply Wp.run; (dsimp only [List.map] <;> exact rfl); (exact rfl)) | (apply Wp.skip; dsimp only [seqS, thenS, blockS]) | (apply Wp.exit; dsimp only [seqS, thenS, blockS]; simp only [reduceIte]))
          (apply Wp.ret; (try dsimp only [seqS, thenS, blockS]); apply leave0; (exact rfl); (simp only [push_cast, seval] <;> (try simp (disch := omega) only [wrap_i64, wrap_u8, Int.add_sub_cancel]) <;> exact rfl); all_goals (try simp only [push_cast, seval]); (try rfl))
          rw [decide_eq_false]
          intro h
          rw [h] at h2
          simp at h2
        · intro h2
          repeat (first | apply Wp.seq | apply Wp.block | (apply Run.next; (simp only [push_cast, seval] <;> (try simp (disch := omega) only [wrap_i64, wrap_u8, Int.add_sub_cancel]) <;> exact rfl); (focus ((try simp only [push_cast, seval]) <;> (exact sideT)))) | (apply Run.nil; dsimp only [seqS, thenS, blockS]) | (apply Wp.run; (dsimp only [List.map] <;> exact rfl); (exact rfl)) | (apply Wp.skip; dsimp only [seqS, thenS, blockS]) | (apply Wp.exit; dsimp only [seqS, thenS, blockS]; simp only [reduceIte]))
          simp only [decide_eq_true_eq, Bool.not_eq_false', decide_eq_false_iff_not] at h2
          refine ⟨k + 1, ?_, ⟨by omega, fun j hj => ?_⟩, by omega⟩
          · (refine Le.of ?_ ?_ rfl rfl <;> (try simp only [push_cast, seval]) <;> (try (with_reducible rfl)))
          · by_cases hjk : j = k
            · subst hjk; exact h2
            · exact hk2 j (by omega)
      · (intro hc; try simp only [decide_eq_true_eq, decide_eq_false_iff_not, Bool.and_eq_true, Bool.or_eq_true, Bool.not_eq_true, Bool.not_eq_false, Bool.not_eq_true', Bool.not_eq_false', Bool.and_eq_false_iff, Bool.or_eq_false_iff, Int.not_lt, Int.not_le, Int.ofNat_lt, Int.ofNat_le] at hc)
        repeat (first | apply Wp.seq | apply Wp.block | (apply Run.next; (simp only [push_cast, seval] <;> (try simp (disch := omega) only [wrap_i64, wrap_u8, Int.add_sub_cancel]) <;> exact rfl); (focus ((try simp only [push_cast, seval]) <;> (exact sideT)))) | (apply Run.nil; dsimp only [seqS, thenS, blockS]) | (apply Wp.run; (dsimp only [List.map] <;> exact rfl); (exact rfl)) | (apply Wp.skip; dsimp only [seqS, thenS, blockS]) | (apply Wp.exit; dsimp only [seqS, thenS, blockS]; simp only [reduceIte]))
        (apply Wp.ret; (try dsimp only [seqS, thenS, blockS]); apply leave0; (exact rfl); (simp only [push_cast, seval] <;> (try simp (disch := omega) only [wrap_i64, wrap_u8, Int.add_sub_cancel]) <;> exact rfl); all_goals (try simp only [push_cast, seval]); (try rfl))
        rw [decide_eq_true]
        apply List.ext_getElem
        · omega
        · intro j h3 h4
          have := hk2 j (by omega)
          simpa [h3, h4] using this
theorem sameInts_same (l : List Int) : Pure Try.prog 32 [.ints l, .ints l] (.bool true) := by
  have h := sameInts_pure l l
  rwa [decide_eq_true (p := l = l) rfl] at h
end Go.Proofs.Try
set_option maxHeartbeats 8000000
namespace Go.Proofs.Try
open Go.Vg

/-! the chapter's examples -/
abbrev exC : List Ch := [⟨2, 6, 60, 20⟩, ⟨3, 8, 45, 15⟩]
abbrev exM : List Ma := [⟨1, 600, 900⟩, ⟨3, 600, 1200⟩]
abbrev exL : List Bk := [⟨0, 600, 4, 0, true, -1⟩, ⟨1, 630, 5, 1, false, -1⟩]
abbrev exb (n : Int) : Bk := ⟨0, n, 2, 1, false, -1⟩
theorem named : Named Try.prog 125 := namedB_ok (by kernel_rfl)
theorem example_pure : Pure Try.prog 49 [] (.tup [houA exC exM 30, .lst 6 (exL.map bkA)]) := xFz_pure named mixed (by kernel_rfl)
theorem exStaff_pure : Pure Try.prog 30 [houA exC exM 30, .lst 6 (exL.map bkA)] (.tup [.ints [0, 1], .int 0]) := xFz_pure named mixed (by kernel_rfl)
theorem exAdd_pure : Pure Try.prog 19 [houA exC exM 30, .lst 6 (exL.map bkA), bkA (exb 710)] (.tup [.lst 6 ((exL ++ [exb 710]).map bkA), .int 0]) := xFz_pure named mixed (by kernel_rfl)
theorem exBegin : bgE exC exM 30 exL 1 = 0 := by kernel_rfl
theorem exLow : (List.range 110).all (fun k => bkB exC 30 (exb (600 + (k : Int))) && !fitB exC 30 (exL ++ [exb (600 + (k : Int))])) = true := by kernel_rfl
theorem exLow_pure (k : Nat) (h : k < 110) : Pure Try.prog 19 [houA exC exM 30, .lst 6 (exL.map bkA), bkA (exb (600 + (k : Int)))] (.tup [.emp, .int 111]) := by
  have := List.all_eq_true.1 exLow k (List.mem_range.2 h)
  simp only [Bool.and_eq_true, Bool.not_eq_true'] at this
  exact add_nofit exBegin _ rfl this.1 this.2
end Go.Proofs.Try
set_option maxHeartbeats 8000000
namespace Go.Proofs.Try
open Go.Vg

theorem exSoonest_pure : Pure Try.prog 22 [houA exC exM 30, .lst 6 (exL.map bkA), bkA (exb 600)] (.tup [.int 710, .int 0]) := by
  have h1 := begin_pure exC exM 30 exL 1 (by omega) (by simp) (by simp) (by simp)
  rw [exBegin] at h1
  have h2 := exLow_pure
  have h3 := exAdd_pure
  generalize exC = cs at h1 h2 h3
  generalize exM = ms at h1 h2 h3
  generalize hL : (exL ++ [exb 710]) = L2 at h3
  generalize exL = ls at h1 h2 h3
  (refine Spec.of_body Try.func22 rfl (by rw [Try.ntmps22]; simp) 0 (by simp) ?_; rw [Try.results22, Try.ntmps22]; simp only [entry, zipArgs, Nat.reduceAdd])
  repeat (first | apply Wp.seq | apply Wp.block | (apply Run.next; (simp only [push_cast, seval] <;> (try simp (disch := omega) only [wrap_i64, wrap_u8, Int.add_sub_cancel]) <;> exact rfl); (focus ((try simp only [push_cast, seval]) <;> (exact sideT)))) | (apply Run.nil; dsimp only [seqS, thenS, blockS]) | (apply Wp.run; (dsimp only [List.map] <;> exact rfl); (exact rfl)) | (apply Wp.skip; dsimp only [seqS, thenS, blockS]) | (apply Wp.exit; dsimp only [seqS, thenS, blockS]; simp only [reduceIte]))
  (apply Run.pureP; (simp only [push_cast, seval] <;> (try simp (disch := omega) only [wrap_i64, wrap_u8, Int.add_sub_cancel]) <;> exact rfl); (exact (Enters.of Try.func50 rfl rfl)); (exact h1); (focus (simp only [push_cast, seval] <;> first | trivial | assumption | (refine ⟨?_, ?_⟩ <;> assumption) | (simp; done))); (try dsimp only [putA, optG]))
  repeat (first | apply Wp.seq | apply Wp.block | (apply Run.next; (simp only [push_cast, seval] <;> (try simp (disch := omega) only [wrap_i64, wrap_u8, Int.add_sub_cancel]) <;> exact rfl); (focus ((try simp only [push_cast, seval]) <;> (exact sideT)))) | (apply Run.nil; dsimp only [seqS, thenS, blockS]) | (apply Wp.run; (dsimp only [List.map] <;> exact rfl); (exact rfl)) | (apply Wp.skip; dsimp only [seqS, thenS, blockS]) | (apply Wp.exit; dsimp only [seqS, thenS, blockS]; simp only [reduceIte]) | (apply Run.gtrue; (simp only [push_cast, seval] <;> (try simp (disch := omega) only [wrap_i64, wrap_u8, Int.add_sub_cancel]) <;> exact rfl); (simp only [push_cast, seval] <;> (try simp (disch := omega) only [wrap_i64, wrap_u8, Int.add_sub_cancel]) <;> exact rfl)) | (apply Run.gfalse (.bool false); (simp only [push_cast, seval] <;> (try simp (disch := omega) only [wrap_i64, wrap_u8, Int.add_sub_cancel]) <;> exact rfl); dsimp only [S.put, optG]) | (apply Wp.condT; (simp only [push_cast, seval] <;> (try simp (disch := omega) only [wrap_i64, wrap_u8, Int.add_sub_cancel]) <;> exact rfl)) | (apply Wp.condF; (simp only [push_cast, seval] <;> (try simp (disch := omega) only [wrap_i64, wrap_u8, Int.add_sub_cancel]) <;> exact rfl)))
  refine Wp.loop (fun (q : Nat × Int) => { t := [(1, .lst 6 (ls.map bkA)), (3, .optr 0 0 0 0), (5, .optr 1 0 0 0), (9, .int (600 + (q.1 : Int)))], m := [⟨0, .row 3 [houA cs ms 30]⟩, ⟨0, .row 6 [bkA (exb q.2)]⟩], n := 37 }) (fun q => q.1 ≤ 110) (fun q => 110 - q.1) (0, 600) ?_ ?_ ?_
  · (refine Le.of ?_ ?_ rfl rfl <;> (try simp only [push_cast, seval]) <;> (try (with_reducible rfl)))
    all_goals rfl
  · simp
  · rintro ⟨k, s⟩ hk
    simp only at hk
    have e1 : decide (600 + (k : Int) ≤ 1440) = true := decide_eq_true (by omega)
    rcases Nat.lt_or_ge k 110 with hlt | hge
    · have h4 := h2 k hlt
      repeat (first | apply Wp.seq | apply Wp.block | (apply Run.next; (simp only [push_cast, seval, e1] <;> (try simp (disch := omega) only [wrap_i64, wrap_u8, Int.add_sub_cancel]) <;> exact rfl); (focus ((try simp only [push_cast, seval, e1]) <;> (exact sideT)))) | (apply Run.nil; dsimp only [seqS, thenS, blockS]) | (apply Wp.run; (dsimp only [List.map] <;> exact rfl); (exact rfl)) | (apply Wp.skip; dsimp only [seqS, thenS, blockS]) | (apply Wp.exit; dsimp only [seqS, thenS, blockS]; simp only [reduceIte]) | (apply Run.gtrue; (simp only [push_cast, seval, e1] <;> (try simp (disch := omega) only [wrap_i64, wrap_u8, Int.add_sub_cancel]) <;> exact rfl); (simp only [push_cast, seval, e1] <;> (try simp (disch := omega) only [wrap_i64, wrap_u8, Int.add_sub_cancel]) <;> exact rfl)) | (apply Run.gfalse (.bool false); (simp only [push_cast, seval, e1] <;> (try simp (disch := omega) only [wrap_i64, wrap_u8, Int.add_sub_cancel]) <;> exact rfl); dsimp only [S.put, optG]) | (apply Wp.condT; (simp only [push_cast, seval, e1] <;> (try simp (disch := omega) only [wrap_i64, wrap_u8, Int.add_sub_cancel]) <;> exact rfl)) | (apply Wp.condF; (simp only [push_cast, seval, e1] <;> (try simp (disch := omega) only [wrap_i64, wrap_u8, Int.add_sub_cancel]) <;> exact rfl)))
      (apply Run.pureFP; (simp only [push_cast, seval, e1] <;> (try simp (disch := omega) only [wrap_i64, wrap_u8, Int.add_sub_cancel]) <;> exact rfl); (exact (Enters.of Try.func19 rfl rfl)); (exact h4); (focus (simp only [push_cast, seval, e1] <;> first | trivial | assumption | (refine ⟨?_, ?_⟩ <;> assumption) | (simp; done))); (try dsimp only [putA, optG]))
      repeat (first | apply Wp.seq | apply Wp.block | (apply Run.next; (simp only [push_cast, seval, e1] <;> (try simp (disch := omega) only [wrap_i64, wrap_u8, Int.add_sub_cancel]) <;> exact rfl); (focus ((try simp only [push_cast, seval, e1]) <;> (exact sideT)))) | (apply Run.nil; dsimp only [seqS, thenS, blockS]) | (apply Wp.run; (dsimp only [List.map] <;> exact rfl); (exact rfl)) | (apply Wp.skip; dsimp only [seqS, thenS, blockS]) | (apply Wp.exit; dsimp only [seqS, thenS, blockS]; simp only [reduceIte]) | (apply Run.gtrue; (simp only [push_cast, seval, e1] <;> (try simp (disch := omega) only [wrap_i64, wrap_u8, Int.add_sub_cancel]) <;> exact rfl); (simp only [push_cast, seval, e1] <;> (try simp (disch := omega) only [wrap_i64, wrap_u8, Int.add_sub_cancel]) <;> exact rfl)) | (apply Run.gfalse (.bool false); (simp only [push_cast, seval, e1] <;> (try simp (disch := omega) only [wrap_i64, wrap_u8, Int.add_sub_cancel]) <;> exact rfl); dsimp only [S.put, optG]) | (apply Wp.condT; (simp only [push_cast, seval, e1] <;> (try simp (disch := omega) only [wrap_i64, wrap_u8, Int.add_sub_cancel]) <;> exact rfl)) | (apply Wp.condF; (simp only [push_cast, seval, e1] <;> (try simp (disch := omega) only [wrap_i64, wrap_u8, Int.add_sub_cancel]) <;> exact rfl)))
      refine ⟨(k + 1, 600 + (k : Int)), ?_, by simp only; omega, by simp only; omega⟩
      (refine Le.of ?_ ?_ rfl rfl <;> (try simp only [push_cast, seval, e1]) <;> (try (with_reducible rfl)))
      all_goals first
        | rfl
        | (rw [Int.add_assoc]; rfl)
        | (rw [← Int.add_assoc]; rfl)
    · have hk' : 600 + (k : Int) = 710 := by omega
      rw [← hk'] at h3
      repeat (first | apply Wp.seq | apply Wp.block | (apply Run.next; (simp only [push_cast, seval, e1] <;> (try simp (disch := omega) only [wrap_i64, wrap_u8, Int.add_sub_cancel]) <;> exact rfl); (focus ((try simp only [push_cast, seval, e1]) <;> (exact sideT)))) | (apply Run.nil; dsimp only [seqS, thenS, blockS]) | (apply Wp.run; (dsimp only [List.map] <;> exact rfl); (exact rfl)) | (apply Wp.skip; dsimp only [seqS, thenS, blockS]) | (apply Wp.exit; dsimp only [seqS, thenS, blockS]; simp only [reduceIte]) | (apply Run.gtrue; (simp only [push_cast, seval, e1] <;> (try simp (disch := omega) only [wrap_i64, wrap_u8, Int.add_sub_cancel]) <;> exact rfl); (simp only [push_cast, seval, e1] <;> (try simp (disch := omega) only [wrap_i64, wrap_u8, Int.add_sub_cancel]) <;> exact rfl)) | (apply Run.gfalse (.bool false); (simp only [push_cast, seval, e1] <;> (try simp (disch := omega) only [wrap_i64, wrap_u8, Int.add_sub_cancel]) <;> exact rfl); dsimp only [S.put, optG]) | (apply Wp.condT; (simp only [push_cast, seval, e1] <;> (try simp (disch := omega) only [wrap_i64, wrap_u8, Int.add_sub_cancel]) <;> exact rfl)) | (apply Wp.condF; (simp only [push_cast, seval, e1] <;> (try simp (disch := omega) only [wrap_i64, wrap_u8, Int.add_sub_cancel]) <;> exact rfl)))
      (apply Run.pureFP; (simp only [push_cast, seval, e1] <;> (try simp (disch := omega) only [wrap_i64, wrap_u8, Int.add_sub_cancel]) <;> exact rfl); (exact (Enters.of Try.func19 rfl rfl)); (exact h3); (focus (simp only [push_cast, seval, e1] <;> first | trivial | assumption | (refine ⟨?_, ?_⟩ <;> assumption) | (simp; done))); (try dsimp only [putA, optG]))
      repeat (first | apply Wp.seq | apply Wp.block | (apply Run.next; (simp only [push_cast, seval, e1] <;> (try simp (disch := omega) only [wrap_i64, wrap_u8, Int.add_sub_cancel]) <;> exact rfl); (focus ((try simp only [push_cast, seval, e1]) <;> (exact sideT)))) | (apply Run.nil; dsimp only [seqS, thenS, blockS]) | (apply Wp.run; (dsimp only [List.map] <;> exact rfl); (exact rfl)) | (apply Wp.skip; dsimp only [seqS, thenS, blockS]) | (apply Wp.exit; dsimp only [seqS, thenS, blockS]; simp only [reduceIte]) | (apply Run.gtrue; (simp only [push_cast, seval, e1] <;> (try simp (disch := omega) only [wrap_i64, wrap_u8, Int.add_sub_cancel]) <;> exact rfl); (simp only [push_cast, seval, e1] <;> (try simp (disch := omega) only [wrap_i64, wrap_u8, Int.add_sub_cancel]) <;> exact rfl)) | (apply Run.gfalse (.bool false); (simp only [push_cast, seval, e1] <;> (try simp (disch := omega) only [wrap_i64, wrap_u8, Int.add_sub_cancel]) <;> exact rfl); dsimp only [S.put, optG]) | (apply Wp.condT; (simp only [push_cast, seval, e1] <;> (try simp (disch := omega) only [wrap_i64, wrap_u8, Int.add_sub_cancel]) <;> exact rfl)) | (apply Wp.condF; (simp only [push_cast, seval, e1] <;> (try simp (disch := omega) only [wrap_i64, wrap_u8, Int.add_sub_cancel]) <;> exact rfl)))
      (apply Wp.ret; (try dsimp only [seqS, thenS, blockS]); apply leave0; (exact rfl); (simp only [push_cast, seval, e1] <;> (try simp (disch := omega) only [wrap_i64, wrap_u8, Int.add_sub_cancel]) <;> exact rfl); all_goals (try simp only [push_cast, seval, e1]); (try rfl))
      rw [hk']
theorem works_pure : Pure Try.prog 18 [] (.bool true) := by
  have h1 := example_pure
  have h2 := exStaff_pure
  have h3 := exSoonest_pure
  have h4 := sameInts_same [0, 1]
  generalize exC = cs at h1 h2 h3
  generalize exM = ms at h1 h2 h3
  generalize exL = ls at h1 h2 h3
  (refine Spec.of_body Try.func18 rfl (by rw [Try.ntmps18]; simp) 0 (by simp) ?_; rw [Try.results18, Try.ntmps18]; simp only [entry, zipArgs, Nat.reduceAdd])
  repeat (first | apply Wp.seq | apply Wp.block | (apply Run.next; (simp only [push_cast, seval] <;> (try simp (disch := omega) only [wrap_i64, wrap_u8, Int.add_sub_cancel]) <;> exact rfl); (focus ((try simp only [push_cast, seval]) <;> (exact sideT)))) | (apply Run.nil; dsimp only [seqS, thenS, blockS]) | (apply Wp.run; (dsimp only [List.map] <;> exact rfl); (exact rfl)) | (apply Wp.skip; dsimp only [seqS, thenS, blockS]) | (apply Wp.exit; dsimp only [seqS, thenS, blockS]; simp only [reduceIte]))
  (apply Run.pureFP; (simp only [push_cast, seval] <;> (try simp (disch := omega) only [wrap_i64, wrap_u8, Int.add_sub_cancel]) <;> exact rfl); (exact (Enters.of Try.func49 rfl rfl)); (exact h1); (focus (simp only [push_cast, seval] <;> first | trivial | assumption | (refine ⟨?_, ?_⟩ <;> assumption) | (simp; done))); (try dsimp only [putA, optG]))
  repeat (first | apply Wp.seq | apply Wp.block | (apply Run.next; (simp only [push_cast, seval] <;> (try simp (disch := omega) only [wrap_i64, wrap_u8, Int.add_sub_cancel]) <;> exact rfl); (focus ((try simp only [push_cast, seval]) <;> (exact sideT)))) | (apply Run.nil; dsimp only [seqS, thenS, blockS]) | (apply Wp.run; (dsimp only [List.map] <;> exact rfl); (exact rfl)) | (apply Wp.skip; dsimp only [seqS, thenS, blockS]) | (apply Wp.exit; dsimp only [seqS, thenS, blockS]; simp only [reduceIte]))
  (apply Run.pureFP; (simp only [push_cast, seval] <;> (try simp (disch := omega) only [wrap_i64, wrap_u8, Int.add_sub_cancel]) <;> exact rfl); (exact (Enters.of Try.func30 rfl rfl)); (exact h2); (focus (simp only [push_cast, seval] <;> first | trivial | assumption | (refine ⟨?_, ?_⟩ <;> assumption) | (simp; done))); (try dsimp only [putA, optG]))
  repeat (first | apply Wp.seq | apply Wp.block | (apply Run.next; (simp only [push_cast, seval] <;> (try simp (disch := omega) only [wrap_i64, wrap_u8, Int.add_sub_cancel]) <;> exact rfl); (focus ((try simp only [push_cast, seval]) <;> (exact sideT)))) | (apply Run.nil; dsimp only [seqS, thenS, blockS]) | (apply Wp.run; (dsimp only [List.map] <;> exact rfl); (exact rfl)) | (apply Wp.skip; dsimp only [seqS, thenS, blockS]) | (apply Wp.exit; dsimp only [seqS, thenS, blockS]; simp only [reduceIte]))
  (apply Run.pureFP; (simp only [push_cast, seval] <;> (try simp (disch := omega) only [wrap_i64, wrap_u8, Int.add_sub_cancel]) <;> exact rfl); (exact (Enters.of Try.func22 rfl rfl)); (exact h3); (focus (simp only [push_cast, seval] <;> first | trivial | assumption | (refine ⟨?_, ?_⟩ <;> assumption) | (simp; done))); (try dsimp only [putA, optG]))
  repeat (first | apply Wp.seq | apply Wp.block | (apply Run.next; (simp only [push_cast, seval] <;> (try simp (disch := omega) only [wrap_i64, wrap_u8, Int.add_sub_cancel]) <;> exact rfl); (focus ((try simp only [push_cast, seval]) <;> (exact sideT)))) | (apply Run.nil; dsimp only [seqS, thenS, blockS]) | (apply Wp.run; (dsimp only [List.map] <;> exact rfl); (exact rfl)) | (apply Wp.skip; dsimp only [seqS, thenS, blockS]) | (apply Wp.exit; dsimp only [seqS, thenS, blockS]; simp only [reduceIte]) | (apply Run.gtrue; (simp only [push_cast, seval] <;> (try simp (disch := omega) only [wrap_i64, wrap_u8, Int.add_sub_cancel]) <;> exact rfl); (simp only [push_cast, seval] <;> (try simp (disch := omega) only [wrap_i64, wrap_u8, Int.add_sub_cancel]) <;> exact rfl)) | (apply Run.gfalse (.bool false); (simp only [push_cast, seval] <;> (try simp (disch := omega) only [wrap_i64, wrap_u8, Int.add_sub_cancel]) <;> exact rfl); dsimp only [S.put, optG]) | (apply Wp.condT; (simp only [push_cast, seval] <;> (try simp (disch := omega) only [wrap_i64, wrap_u8, Int.add_sub_cancel]) <;> exact rfl)) | (apply Wp.condF; (simp only [push_cast, seval] <;> (try simp (disch := omega) only [wrap_i64, wrap_u8, Int.add_sub_cancel]) <;> exact rfl)))
  (apply Run.pureP; (simp only [push_cast, seval] <;> (try simp (disch := omega) only [wrap_i64, wrap_u8, Int.add_sub_cancel]) <;> exact rfl); (exact (Enters.of Try.func32 rfl rfl)); (exact h4); (focus (simp only [push_cast, seval] <;> first | trivial | assumption | (refine ⟨?_, ?_⟩ <;> assumption) | (simp; done))); (try dsimp only [putA, optG]))
  repeat (first | apply Wp.seq | apply Wp.block | (apply Run.next; (simp only [push_cast, seval] <;> (try simp (disch := omega) only [wrap_i64, wrap_u8, Int.add_sub_cancel]) <;> exact rfl); (focus ((try simp only [push_cast, seval]) <;> (exact sideT)))) | (apply Run.nil; dsimp only [seqS, thenS, blockS]) | (apply Wp.run; (dsimp only [List.map] <;> exact rfl); (exact rfl)) | (apply Wp.skip; dsimp only [seqS, thenS, blockS]) | (apply Wp.exit; dsimp only [seqS, thenS, blockS]; simp only [reduceIte]) | (apply Run.gtrue; (simp only [push_cast, seval] <;> (try simp (disch := omega) only [wrap_i64, wrap_u8, Int.add_sub_cancel]) <;> exact rfl); (simp only [push_cast, seval] <;> (try simp (disch := omega) only [wrap_i64, wrap_u8, Int.add_sub_cancel]) <;> exact rfl)) | (apply Run.gfalse (.bool false); (simp only [push_cast, seval] <;> (try simp (disch := omega) only [wrap_i64, wrap_u8, Int.add_sub_cancel]) <;> exact rfl); dsimp only [S.put, optG]) | (apply Wp.condT; (simp only [push_cast, seval] <;> (try simp (disch := omega) only [wrap_i64, wrap_u8, Int.add_sub_cancel]) <;> exact rfl)) | (apply Wp.condF; (simp only [push_cast, seval] <;> (try simp (disch := omega) only [wrap_i64, wrap_u8, Int.add_sub_cancel]) <;> exact rfl)))
  (apply Wp.ret; (try dsimp only [seqS, thenS, blockS]); apply leave0; (exact rfl); (simp only [push_cast, seval] <;> (try simp (disch := omega) only [wrap_i64, wrap_u8, Int.add_sub_cancel]) <;> exact rfl); all_goals (try simp only [push_cast, seval]); (try rfl))
end Go.Proofs.Try
set_option maxHeartbeats 8000000
namespace Go.Proofs.Try
open Go.Vg
def lgB (cs : List Ch) (ms : List Ma) (ls : List Bk) : Bool := (decide (8 < (ls.length : Int)) && decide ((ls.length : Int) ≤ 20)) || (decide (4 < (ms.length : Int)) && decide ((ms.length : Int) ≤ 6))
theorem large_pure (cs : List Ch) (ms : List Ma) (cake : Int) (ls : List Bk) (hm : ms.length ≤ 9223372036854775807) (hl : ls.length ≤ 9223372036854775807) : Pure Try.prog 17 [houA cs ms cake, .lst 6 (ls.map bkA)] (.bool (lgB cs ms ls)) := by
  (refine Spec.of_body Try.func17 rfl (by rw [Try.ntmps17]; simp) 0 (by simp) ?_; rw [Try.results17, Try.ntmps17]; simp only [entry, zipArgs, Nat.reduceAdd])
  repeat (first | apply Wp.seq | apply Wp.block | (apply Run.next; (simp only [push_cast, seval] <;> (try simp (disch := omega) only [wrap_i64, wrap_u8, Int.add_sub_cancel]) <;> exact rfl); (focus ((try simp only [push_cast, seval]) <;> (exact sideT)))) | (apply Run.nil; dsimp only [seqS, thenS, blockS]) | (apply Wp.run; (dsimp only [List.map] <;> exact rfl); (exact rfl)) | (apply Wp.skip; dsimp only [seqS, thenS, blockS]) | (apply Wp.exit; dsimp only [seqS, thenS, blockS]; simp only [reduceIte]))
  (apply Wp.ret; (try dsimp only [seqS, thenS, blockS]); apply leave0; (exact rfl); (simp only [push_cast, seval] <;> (try simp (disch := omega) only [wrap_i64, wrap_u8, Int.add_sub_cancel]) <;> exact rfl); all_goals (try simp only [push_cast, seval]); (try rfl))
end Go.Proofs.Try
set_option maxHeartbeats 8000000
set_option maxRecDepth 20000
namespace Go.Proofs.Try
open Go.Vg
end Go.Proofs.Try
