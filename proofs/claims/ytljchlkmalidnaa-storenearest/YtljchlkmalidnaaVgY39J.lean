/- A part of the proof of StoreNearest: contracts of functions, with plain laws that they need. -/
import Derived.Test.YtljchlkmalidnaaVgFz
import Derived.Test.YtljchlkmalidnaaVgAp
import Derived.Test.YtljchlkmalidnaaVgEd
import Derived.Test.YtljchlkmalidnaaVgT
import Derived.Test.YtljchlkmalidnaaVgNl
import Derived.Test.YtljchlkmalidnaaVgY10J
set_option linter.all false
set_option maxHeartbeats 8000000
namespace Go.Proofs.Try
open Go.Vg

/-! the search of a repair -/
theorem look_spec {ks : List St} {ls : List Ln} (hv : SV ks ls) (life : Int) {L : List Int} (hL : ∀ x ∈ L, 0 ≤ x ∧ x < (ls.length : Int)) (hLl : L.length ≤ 20) (hpos : 0 < L.length) {n : Nat} (hn : n ≤ 100) {pl : List Int} (hpl : pl.length = ls.length) (lost : Int) :
    ∀ (r : Nat) {F H : Mem} {N : Nat} (hF : F.length = N) {e0 e4 : Ent} {vi : Nat} {I : List Int} {T : List (Nat × List Int)} {st : Bs}, I.length + r = L.length → (∀ x ∈ I, 0 ≤ x ∧ x < (n : Int)) → T.map (·.2) = tO L n I → (∀ J d, st = some (J, d) → J ≠ []) →
    Go.Vg.Spec Try.prog 75 [.optr (N + (7 + n)) 0 0 0, .int (dL pl L I)] (F ++ blk N ks ls e0 e4 life L vi I (wO ls L n I) T (repE N pl lost st :: H)) (LkQ F N ks ls e0 e4 life L n I pl lost (lkS ls life L n pl lost r I st)) := by
  intro r
  induction r with
  | zero =>
    intro F H N hF e0 e4 vi I T st hr hI hT hst
    have hwl := wO_len ls L n I
    have hTl : T.length = n := by have := congrArg List.length hT; rw [List.length_map, tO_len] at this; exact this
    have hTm : (T.map lentE).length = n := by simpa using hTl
    have hcb := dfN_bd (lkP pl L) I I.length
    have hp1 := lk_prune (ls := ls) (life := life) (L := L) (n := n) (pl := pl) (lost := lost) (r := 0) (I := I) (st := st)
    have hp2 := lk_zero (ls := ls) (life := life) (L := L) (n := n) (pl := pl) (lost := lost) (I := I) (st := st)
    have hQ : ∀ {x H'}, LkQ F N ks ls e0 e4 life L n I pl lost (lkS ls life L n pl lost 0 I st) x (F ++ blk N ks ls e0 e4 life L vi I (wO ls L n I) T (repE N pl lost (lkS ls life L n pl lost 0 I st) :: H')) := fun {x H'} => ⟨vi, T, H', hT, rfl⟩
    generalize LkQ F N ks ls e0 e4 life L n I pl lost (lkS ls life L n pl lost 0 I st) = Q at hQ
    generalize wO ls L n I = W at *
    change 0 ≤ dL pl L I ∧ dL pl L I ≤ _ at hcb
    generalize dL pl L I = c at *
    have hnb := fun (m : Mem) => nilB_bA (m := m) hst
    have he : decide ((I.length : Int) = (L.length : Int)) = true := decide_eq_true (by omega)
    (refine Spec.of_bodyA Try.func75 rfl (by rw [Try.ntmps75]; simp) ?_; rw [Try.results75, Try.ntmps75]; simp only [entry, zipArgs, Nat.reduceAdd])
    repeat (first | apply Wp.seq | apply Wp.block | (apply Run.next; (simp only [push_cast, seval, getF hF, getF0 hF, get7, lentR_len, getF0 hTm, List.getElem?_cons_zero, he] <;> (try simp (disch := omega) only [wI, wU, wC]) <;> exact rfl); (focus ((try simp only [push_cast, seval, getF hF, getF0 hF, get7, lentR_len, getF0 hTm, List.getElem?_cons_zero, he]) <;> exact sT))) | ((first | apply Run.nil | apply Wp.skip); dsimp only [sQ, tQ, bQ]) | (apply Wp.run; (dsimp only [List.map] <;> exact rfl); exact rfl) | (apply Wp.exit; dsimp only [sQ, tQ, bQ]; simp only [reduceIte]))
    refine Run.notNil (e := 3) (b := st.isNone) (by simp only [push_cast, seval, getF hF, getF0 hF, get7, lentR_len, getF0 hTm, List.getElem?_cons_zero, he]) (by simp only [push_cast, seval, getF hF, getF0 hF, get7, lentR_len, getF0 hTm, List.getElem?_cons_zero, he]; exact hnb _) ?_
    dsimp only [putA]
    repeat (first | apply Wp.seq | apply Wp.block | (apply Run.next; (simp only [push_cast, seval, getF hF, getF0 hF, get7, lentR_len, getF0 hTm, List.getElem?_cons_zero, he] <;> (try simp (disch := omega) only [wI, wU, wC]) <;> exact rfl); (focus ((try simp only [push_cast, seval, getF hF, getF0 hF, get7, lentR_len, getF0 hTm, List.getElem?_cons_zero, he]) <;> exact sT))) | ((first | apply Run.nil | apply Wp.skip); dsimp only [sQ, tQ, bQ]) | (apply Wp.run; (dsimp only [List.map] <;> exact rfl); exact rfl) | (apply Wp.exit; dsimp only [sQ, tQ, bQ]; simp only [reduceIte]))
    refine Wp.meet { t := [(0, .optr (N + (7 + n)) 0 0 0), (1, .int c)], m := F ++ blk N ks ls e0 e4 life L vi I W T (repE N pl lost st :: H), n := 121 } (prB st c = false) ?_ ?_
    · (apply Wp.cond; (simp only [push_cast, seval, getF hF, getF0 hF, get7, lentR_len, getF0 hTm, List.getElem?_cons_zero, he] <;> (try simp (disch := omega) only [wI, wU, wC]) <;> exact rfl))
      · intro hc
        have h1 := hp1 (by unfold prB; exact hc)
        rw [h1] at hQ
        repeat (first | apply Wp.seq | apply Wp.block | (apply Run.next; (simp only [push_cast, seval, getF hF, getF0 hF, get7, lentR_len, getF0 hTm, List.getElem?_cons_zero, he] <;> (try simp (disch := omega) only [wI, wU, wC]) <;> exact rfl); (focus ((try simp only [push_cast, seval, getF hF, getF0 hF, get7, lentR_len, getF0 hTm, List.getElem?_cons_zero, he]) <;> exact sT))) | ((first | apply Run.nil | apply Wp.skip); dsimp only [sQ, tQ, bQ]) | (apply Wp.run; (dsimp only [List.map] <;> exact rfl); exact rfl) | (apply Wp.exit; dsimp only [sQ, tQ, bQ]; simp only [reduceIte]) | (apply Run.gtrue; (simp only [push_cast, seval, getF hF, getF0 hF, get7, lentR_len, getF0 hTm, List.getElem?_cons_zero, he] <;> (try simp (disch := omega) only [wI, wU, wC]) <;> exact rfl); (simp only [push_cast, seval, getF hF, getF0 hF, get7, lentR_len, getF0 hTm, List.getElem?_cons_zero, he] <;> (try simp (disch := omega) only [wI, wU, wC]) <;> exact rfl)) | (apply Run.gfalse (.bool false); (simp only [push_cast, seval, getF hF, getF0 hF, get7, lentR_len, getF0 hTm, List.getElem?_cons_zero, he] <;> (try simp (disch := omega) only [wI, wU, wC]) <;> exact rfl); dsimp only [S.put, optG]) | (apply Wp.condT; (simp only [push_cast, seval, getF hF, getF0 hF, get7, lentR_len, getF0 hTm, List.getElem?_cons_zero, he] <;> (try simp (disch := omega) only [wI, wU, wC]) <;> exact rfl)) | (apply Wp.condF; (simp only [push_cast, seval, getF hF, getF0 hF, get7, lentR_len, getF0 hTm, List.getElem?_cons_zero, he] <;> (try simp (disch := omega) only [wI, wU, wC]) <;> exact rfl)))
        (apply Wp.ret; (try dsimp only [sQ, tQ, bQ]); apply leaveA; exact rfl; (simp only [push_cast, seval, getF hF, getF0 hF, get7, lentR_len, getF0 hTm, List.getElem?_cons_zero, he] <;> (try simp (disch := omega) only [wI, wU, wC]) <;> exact rfl); (focus (first | (simp only [push_cast, seval, getF hF, getF0 hF, get7, lentR_len, getF0 hTm, List.getElem?_cons_zero, he]; done) | trivial | (simp only [push_cast, seval, getF hF, getF0 hF, get7, lentR_len, getF0 hTm, List.getElem?_cons_zero, he]; trivial) | (simp; done))); (try simp only [push_cast, seval, getF hF, getF0 hF, get7, lentR_len, getF0 hTm, List.getElem?_cons_zero, he]))
        exact hQ
      · intro hc
        repeat (first | apply Wp.seq | apply Wp.block | (apply Run.next; (simp only [push_cast, seval, getF hF, getF0 hF, get7, lentR_len, getF0 hTm, List.getElem?_cons_zero, he] <;> (try simp (disch := omega) only [wI, wU, wC]) <;> exact rfl); (focus ((try simp only [push_cast, seval, getF hF, getF0 hF, get7, lentR_len, getF0 hTm, List.getElem?_cons_zero, he]) <;> exact sT))) | ((first | apply Run.nil | apply Wp.skip); dsimp only [sQ, tQ, bQ]) | (apply Wp.run; (dsimp only [List.map] <;> exact rfl); exact rfl) | (apply Wp.exit; dsimp only [sQ, tQ, bQ]; simp only [reduceIte]) | (apply Run.gtrue; (simp only [push_cast, seval, getF hF, getF0 hF, get7, lentR_len, getF0 hTm, List.getElem?_cons_zero, he] <;> (try simp (disch := omega) only [wI, wU, wC]) <;> exact rfl); (simp only [push_cast, seval, getF hF, getF0 hF, get7, lentR_len, getF0 hTm, List.getElem?_cons_zero, he] <;> (try simp (disch := omega) only [wI, wU, wC]) <;> exact rfl)) | (apply Run.gfalse (.bool false); (simp only [push_cast, seval, getF hF, getF0 hF, get7, lentR_len, getF0 hTm, List.getElem?_cons_zero, he] <;> (try simp (disch := omega) only [wI, wU, wC]) <;> exact rfl); dsimp only [S.put, optG]) | (apply Wp.condT; (simp only [push_cast, seval, getF hF, getF0 hF, get7, lentR_len, getF0 hTm, List.getElem?_cons_zero, he] <;> (try simp (disch := omega) only [wI, wU, wC]) <;> exact rfl)) | (apply Wp.condF; (simp only [push_cast, seval, getF hF, getF0 hF, get7, lentR_len, getF0 hTm, List.getElem?_cons_zero, he] <;> (try simp (disch := omega) only [wI, wU, wC]) <;> exact rfl)))
        exact ⟨by (refine Le.of ?_ ?_ rfl rfl <;> (try simp only [push_cast, seval, getF hF, getF0 hF, get7, lentR_len, getF0 hTm, List.getElem?_cons_zero, he]) <;> (try (with_reducible rfl))), by unfold prB; exact hc⟩
    · (try dsimp only [sQ, tQ, bQ])
      intro s' hs' hpr
      refine Wp.le hs' ?_
      have hQ := fun {x H'} => hQ (x := x) (H' := H')
      rw [hp2 hpr] at hQ
      have hbl := fun (x r' : Ent) => blk_last (H := H) hF (ks := ks) (ls := ls) (e0 := e0) (e4 := e4) (life := life) (L := L) (vi := vi) (I := I) (W := W) (T := T) hTl (r := repE N pl lost st) x r'
      repeat (first | apply Wp.seq | apply Wp.block | (apply Run.next; (simp only [push_cast, seval, getF hF, getF0 hF, get7, lentR_len, getF0 hTm, List.getElem?_cons_zero, he] <;> (try simp (disch := omega) only [wI, wU, wC]) <;> exact rfl); (focus ((try simp only [push_cast, seval, getF hF, getF0 hF, get7, lentR_len, getF0 hTm, List.getElem?_cons_zero, he]) <;> exact sT))) | ((first | apply Run.nil | apply Wp.skip); dsimp only [sQ, tQ, bQ]) | (apply Wp.run; (dsimp only [List.map] <;> exact rfl); exact rfl) | (apply Wp.exit; dsimp only [sQ, tQ, bQ]; simp only [reduceIte]))
      (apply Wp.condT; (simp only [push_cast, seval, getF hF, getF0 hF, get7, lentR_len, getF0 hTm, List.getElem?_cons_zero, he] <;> (try simp (disch := omega) only [wI, wU, wC]) <;> exact rfl))
      repeat (first | apply Wp.seq | apply Wp.block)
      (apply Wp.run; (dsimp only [List.map] <;> exact rfl); exact rfl)
      iterate 2 (apply Run.next; (simp only [push_cast, seval, getF hF, getF0 hF, get7, lentR_len, getF0 hTm, List.getElem?_cons_zero, he] <;> (try simp (disch := omega) only [wI, wU, wC]) <;> exact rfl); (focus ((try simp only [push_cast, seval, getF hF, getF0 hF, get7, lentR_len, getF0 hTm, List.getElem?_cons_zero, he]) <;> exact sT)))
      (apply Run.lit0e; (simp only [push_cast, seval, getF hF, getF0 hF, get7, lentR_len, getF0 hTm, List.getElem?_cons_zero, he] <;> (try simp (disch := omega) only [wI, wU, wC]) <;> exact rfl); (focus ((try simp only [push_cast, seval, getF hF, getF0 hF, get7, lentR_len, getF0 hTm, List.getElem?_cons_zero, he]) <;> exact sT)); dsimp only [putA])
      iterate 7 (apply Run.next; (simp only [push_cast, seval, getF hF, getF0 hF, get7, lentR_len, getF0 hTm, List.getElem?_cons_zero, he] <;> (try simp (disch := omega) only [wI, wU, wC]) <;> exact rfl); (focus ((try simp only [push_cast, seval, getF hF, getF0 hF, get7, lentR_len, getF0 hTm, List.getElem?_cons_zero, he]) <;> exact sT)))
      have hM0 : (F ++ blk N ks ls e0 e4 life L vi I W T (repE N pl lost st :: H))[N + (7 + n)]? = some (repE N pl lost st) := by rw [getF hF, get7, getF0 hTm]; rfl
      have hM6 : (F ++ blk N ks ls e0 e4 life L vi I W T (repE N pl lost st :: H))[N + 6]? = some ⟨vi, .row 1 (I.map AV.int)⟩ := by rw [getF hF]; rfl
      generalize hM : F ++ blk N ks ls e0 e4 life L vi I W T (repE N pl lost st :: H) = M at hM0 hM6 hbl ⊢
      (apply Run.next; (simp only [push_cast, seval, hM6] <;> (try simp (disch := omega) only [wI, wU, wC]) <;> exact rfl); (focus ((try simp only [push_cast, seval, hM6]) <;> exact sT)))
      refine Run.freeze 49 (id := M.length) (ver := 0) (off := 0) (len := I.length) (sz := 1) (l0 := I.map AV.int) (m' := M ++ [⟨1, .row 1 []⟩]) (x' := .ints I) rfl (by simp) (by simp) (by decide) (set_len _ _) (by rw [List.drop_zero, List.take_of_length_le (by simp)]) ?_
      have hM0' := fun l => get_app hM0 l
      repeat (first | apply Wp.seq | apply Wp.block | (apply Run.next; (simp only [push_cast, seval, hM0', hbl, getF hF, get7, getF0 hTm, List.getElem?_cons_zero, setF hF, set7, setF0 hTm, List.set_cons_zero] <;> (try simp (disch := omega) only [wI, wU, wC]) <;> exact rfl); (focus ((try simp only [push_cast, seval, hM0', hbl, getF hF, get7, getF0 hTm, List.getElem?_cons_zero, setF hF, set7, setF0 hTm, List.set_cons_zero]) <;> exact sT))) | ((first | apply Run.nil | apply Wp.skip); dsimp only [sQ, tQ, bQ]) | (apply Wp.run; (dsimp only [List.map] <;> exact rfl); exact rfl) | (apply Wp.exit; dsimp only [sQ, tQ, bQ]; simp only [reduceIte]))
      (apply Wp.ret; (try dsimp only [sQ, tQ, bQ]); apply leaveA; exact rfl; (simp only [push_cast, seval, hM0', hbl, getF hF, get7, getF0 hTm, List.getElem?_cons_zero, setF hF, set7, setF0 hTm, List.set_cons_zero] <;> (try simp (disch := omega) only [wI, wU, wC]) <;> exact rfl); (focus (first | (simp only [push_cast, seval, hM0', hbl, getF hF, get7, getF0 hTm, List.getElem?_cons_zero, setF hF, set7, setF0 hTm, List.set_cons_zero]; done) | trivial | (simp only [push_cast, seval, hM0', hbl, getF hF, get7, getF0 hTm, List.getElem?_cons_zero, setF hF, set7, setF0 hTm, List.set_cons_zero]; trivial) | (simp; done))); (try simp only [push_cast, seval, hM0', hbl, getF hF, get7, getF0 hTm, List.getElem?_cons_zero, setF hF, set7, setF0 hTm, List.set_cons_zero]))
      exact hQ
  | succ r ih =>
    intro F H N hF e0 e4 vi I T st hr hI hT hst
    have hh20 := hv.l20
    have hwl := wO_len ls L n I
    have hTl : T.length = n := by have := congrArg List.length hT; rw [List.length_map, tO_len] at this; exact this
    have hTm : (T.map lentE).length = n := by simpa using hTl
    have hcb : 0 ≤ dL pl L I ∧ dL pl L I ≤ I.length := dfN_bd (lkP pl L) I I.length
    have hub := fun i => uL_bd hv L i
    have hlo : 0 ≤ L.getD I.length 0 ∧ L.getD I.length 0 < (ls.length : Int) := hL _ (by simp [show I.length < L.length by omega])
    have hlu := (hv.ln (L.getD I.length 0).toNat (by omega)).2.2
    have hp1 := lk_prune (ls := ls) (life := life) (L := L) (n := n) (pl := pl) (lost := lost) (r := r + 1) (I := I) (st := st)
    have hstep := lk_step ls life L n pl lost r I st
    have hds := fun j : Nat => (show dL pl L (I ++ [(j : Int)]) = if pl.getD (L.getD I.length 0).toNat 0 = (j : Int) then dL pl L I else dL pl L I + 1 from dfI_snoc (lkP pl L) I (j : Int))
    have hst0 : stF (dL pl L) st (plF (lkF ls life L n lost r I) 0 0) = st := rfl
    have hne := fun j => stF_ne (D := dL pl L) (l := plF (lkF ls life L n lost r I) j 0) hst (fun x hx => by
      obtain ⟨i, _, _, h3⟩ := plF_mem.1 hx
      unfold lkF at h3
      split at h3
      · have h4 := (plL_mem.1 h3).1
        intro e
        rw [e] at h4
        simp at h4
        omega
      · cases h3)
    have hQ : ∀ {x vi' T' H' st'}, T'.map (·.2) = tO L n I → lkS ls life L n pl lost (r + 1) I st = st' → LkQ F N ks ls e0 e4 life L n I pl lost (lkS ls life L n pl lost (r + 1) I st) x (F ++ blk N ks ls e0 e4 life L vi' I (wO ls L n I) T' (repE N pl lost st' :: H')) := fun {x vi' T' H' st'} h1 h2 => ⟨vi', T', H', h1, by rw [h2]⟩
    have hfin : lkS ls life L n pl lost (r + 1) I st = stF (dL pl L) st (plF (lkF ls life L n lost r I) n 0) := lk_succ _ _ _ _ _ _ _ _ _
    generalize LkQ F N ks ls e0 e4 life L n I pl lost (lkS ls life L n pl lost (r + 1) I st) = Q at hQ
    generalize hlv : L.getD I.length 0 = loan at hlo hlu hds
    generalize hW : wO ls L n I = W at hwl hQ
    generalize hcI : dL pl L I = c at hcb hds hp1
    generalize hpv : pl.getD loan.toNat 0 = pv at hds
    have hnb := fun (m : Mem) => nilB_bA (m := m) hst
    have he : decide ((I.length : Int) = (L.length : Int)) = false := decide_eq_false (by omega)
    (refine Spec.of_bodyA Try.func75 rfl (by rw [Try.ntmps75]; simp) ?_; rw [Try.results75, Try.ntmps75]; simp only [entry, zipArgs, Nat.reduceAdd])
    repeat (first | apply Wp.seq | apply Wp.block | (apply Run.next; (simp only [push_cast, seval, getF hF, getF0 hF, get7, lentR_len, getF0 hTm, List.getElem?_cons_zero, he, hlv] <;> (try simp (disch := omega) only [wI, wU, wC]) <;> exact rfl); (focus ((try simp only [push_cast, seval, getF hF, getF0 hF, get7, lentR_len, getF0 hTm, List.getElem?_cons_zero, he, hlv]) <;> exact sT))) | ((first | apply Run.nil | apply Wp.skip); dsimp only [sQ, tQ, bQ]) | (apply Wp.run; (dsimp only [List.map] <;> exact rfl); exact rfl) | (apply Wp.exit; dsimp only [sQ, tQ, bQ]; simp only [reduceIte]))
    refine Run.notNil (e := 3) (b := st.isNone) (by simp only [push_cast, seval, getF hF, getF0 hF, get7, lentR_len, getF0 hTm, List.getElem?_cons_zero, he, hlv]) (by simp only [push_cast, seval, getF hF, getF0 hF, get7, lentR_len, getF0 hTm, List.getElem?_cons_zero, he, hlv]; exact hnb _) ?_
    dsimp only [putA]
    repeat (first | apply Wp.seq | apply Wp.block | (apply Run.next; (simp only [push_cast, seval, getF hF, getF0 hF, get7, lentR_len, getF0 hTm, List.getElem?_cons_zero, he, hlv] <;> (try simp (disch := omega) only [wI, wU, wC]) <;> exact rfl); (focus ((try simp only [push_cast, seval, getF hF, getF0 hF, get7, lentR_len, getF0 hTm, List.getElem?_cons_zero, he, hlv]) <;> exact sT))) | ((first | apply Run.nil | apply Wp.skip); dsimp only [sQ, tQ, bQ]) | (apply Wp.run; (dsimp only [List.map] <;> exact rfl); exact rfl) | (apply Wp.exit; dsimp only [sQ, tQ, bQ]; simp only [reduceIte]))
    refine Wp.meet { t := [(0, .optr (N + (7 + n)) 0 0 0), (1, .int c)], m := F ++ blk N ks ls e0 e4 life L vi I W T (repE N pl lost st :: H), n := 121 } True ?_ ?_
    · (apply Wp.cond; (simp only [push_cast, seval, getF hF, getF0 hF, get7, lentR_len, getF0 hTm, List.getElem?_cons_zero, he, hlv] <;> (try simp (disch := omega) only [wI, wU, wC]) <;> exact rfl))
      · intro hc
        have h1 := hp1 (by unfold prB; exact hc)
        repeat (first | apply Wp.seq | apply Wp.block | (apply Run.next; (simp only [push_cast, seval, getF hF, getF0 hF, get7, lentR_len, getF0 hTm, List.getElem?_cons_zero, he, hlv] <;> (try simp (disch := omega) only [wI, wU, wC]) <;> exact rfl); (focus ((try simp only [push_cast, seval, getF hF, getF0 hF, get7, lentR_len, getF0 hTm, List.getElem?_cons_zero, he, hlv]) <;> exact sT))) | ((first | apply Run.nil | apply Wp.skip); dsimp only [sQ, tQ, bQ]) | (apply Wp.run; (dsimp only [List.map] <;> exact rfl); exact rfl) | (apply Wp.exit; dsimp only [sQ, tQ, bQ]; simp only [reduceIte]) | (apply Run.gtrue; (simp only [push_cast, seval, getF hF, getF0 hF, get7, lentR_len, getF0 hTm, List.getElem?_cons_zero, he, hlv] <;> (try simp (disch := omega) only [wI, wU, wC]) <;> exact rfl); (simp only [push_cast, seval, getF hF, getF0 hF, get7, lentR_len, getF0 hTm, List.getElem?_cons_zero, he, hlv] <;> (try simp (disch := omega) only [wI, wU, wC]) <;> exact rfl)) | (apply Run.gfalse (.bool false); (simp only [push_cast, seval, getF hF, getF0 hF, get7, lentR_len, getF0 hTm, List.getElem?_cons_zero, he, hlv] <;> (try simp (disch := omega) only [wI, wU, wC]) <;> exact rfl); dsimp only [S.put, optG]) | (apply Wp.condT; (simp only [push_cast, seval, getF hF, getF0 hF, get7, lentR_len, getF0 hTm, List.getElem?_cons_zero, he, hlv] <;> (try simp (disch := omega) only [wI, wU, wC]) <;> exact rfl)) | (apply Wp.condF; (simp only [push_cast, seval, getF hF, getF0 hF, get7, lentR_len, getF0 hTm, List.getElem?_cons_zero, he, hlv] <;> (try simp (disch := omega) only [wI, wU, wC]) <;> exact rfl)))
        (apply Wp.ret; (try dsimp only [sQ, tQ, bQ]); apply leaveA; exact rfl; (simp only [push_cast, seval, getF hF, getF0 hF, get7, lentR_len, getF0 hTm, List.getElem?_cons_zero, he, hlv] <;> (try simp (disch := omega) only [wI, wU, wC]) <;> exact rfl); (focus (first | (simp only [push_cast, seval, getF hF, getF0 hF, get7, lentR_len, getF0 hTm, List.getElem?_cons_zero, he, hlv]; done) | trivial | (simp only [push_cast, seval, getF hF, getF0 hF, get7, lentR_len, getF0 hTm, List.getElem?_cons_zero, he, hlv]; trivial) | (simp; done))); (try simp only [push_cast, seval, getF hF, getF0 hF, get7, lentR_len, getF0 hTm, List.getElem?_cons_zero, he, hlv]))
        exact hQ hT h1
      · intro hc
        repeat (first | apply Wp.seq | apply Wp.block | (apply Run.next; (simp only [push_cast, seval, getF hF, getF0 hF, get7, lentR_len, getF0 hTm, List.getElem?_cons_zero, he, hlv] <;> (try simp (disch := omega) only [wI, wU, wC]) <;> exact rfl); (focus ((try simp only [push_cast, seval, getF hF, getF0 hF, get7, lentR_len, getF0 hTm, List.getElem?_cons_zero, he, hlv]) <;> exact sT))) | ((first | apply Run.nil | apply Wp.skip); dsimp only [sQ, tQ, bQ]) | (apply Wp.run; (dsimp only [List.map] <;> exact rfl); exact rfl) | (apply Wp.exit; dsimp only [sQ, tQ, bQ]; simp only [reduceIte]) | (apply Run.gtrue; (simp only [push_cast, seval, getF hF, getF0 hF, get7, lentR_len, getF0 hTm, List.getElem?_cons_zero, he, hlv] <;> (try simp (disch := omega) only [wI, wU, wC]) <;> exact rfl); (simp only [push_cast, seval, getF hF, getF0 hF, get7, lentR_len, getF0 hTm, List.getElem?_cons_zero, he, hlv] <;> (try simp (disch := omega) only [wI, wU, wC]) <;> exact rfl)) | (apply Run.gfalse (.bool false); (simp only [push_cast, seval, getF hF, getF0 hF, get7, lentR_len, getF0 hTm, List.getElem?_cons_zero, he, hlv] <;> (try simp (disch := omega) only [wI, wU, wC]) <;> exact rfl); dsimp only [S.put, optG]) | (apply Wp.condT; (simp only [push_cast, seval, getF hF, getF0 hF, get7, lentR_len, getF0 hTm, List.getElem?_cons_zero, he, hlv] <;> (try simp (disch := omega) only [wI, wU, wC]) <;> exact rfl)) | (apply Wp.condF; (simp only [push_cast, seval, getF hF, getF0 hF, get7, lentR_len, getF0 hTm, List.getElem?_cons_zero, he, hlv] <;> (try simp (disch := omega) only [wI, wU, wC]) <;> exact rfl)))
        exact ⟨by (refine Le.of ?_ ?_ rfl rfl <;> (try simp only [push_cast, seval, getF hF, getF0 hF, get7, lentR_len, getF0 hTm, List.getElem?_cons_zero, he, hlv]) <;> (try (with_reducible rfl))), trivial⟩
    · (try dsimp only [sQ, tQ, bQ])
      intro s' hs' _
      refine Wp.le hs' ?_
      repeat (first | apply Wp.seq | apply Wp.block | (apply Run.next; (simp only [push_cast, seval, getF hF, getF0 hF, get7, lentR_len, getF0 hTm, List.getElem?_cons_zero, he, hlv] <;> (try simp (disch := omega) only [wI, wU, wC]) <;> exact rfl); (focus ((try simp only [push_cast, seval, getF hF, getF0 hF, get7, lentR_len, getF0 hTm, List.getElem?_cons_zero, he, hlv]) <;> exact sT))) | ((first | apply Run.nil | apply Wp.skip); dsimp only [sQ, tQ, bQ]) | (apply Wp.run; (dsimp only [List.map] <;> exact rfl); exact rfl) | (apply Wp.exit; dsimp only [sQ, tQ, bQ]; simp only [reduceIte]) | (apply Run.gtrue; (simp only [push_cast, seval, getF hF, getF0 hF, get7, lentR_len, getF0 hTm, List.getElem?_cons_zero, he, hlv] <;> (try simp (disch := omega) only [wI, wU, wC]) <;> exact rfl); (simp only [push_cast, seval, getF hF, getF0 hF, get7, lentR_len, getF0 hTm, List.getElem?_cons_zero, he, hlv] <;> (try simp (disch := omega) only [wI, wU, wC]) <;> exact rfl)) | (apply Run.gfalse (.bool false); (simp only [push_cast, seval, getF hF, getF0 hF, get7, lentR_len, getF0 hTm, List.getElem?_cons_zero, he, hlv] <;> (try simp (disch := omega) only [wI, wU, wC]) <;> exact rfl); dsimp only [S.put, optG]) | (apply Wp.condT; (simp only [push_cast, seval, getF hF, getF0 hF, get7, lentR_len, getF0 hTm, List.getElem?_cons_zero, he, hlv] <;> (try simp (disch := omega) only [wI, wU, wC]) <;> exact rfl)) | (apply Wp.condF; (simp only [push_cast, seval, getF hF, getF0 hF, get7, lentR_len, getF0 hTm, List.getElem?_cons_zero, he, hlv] <;> (try simp (disch := omega) only [wI, wU, wC]) <;> exact rfl)))
      refine Wp.loop (fun (q : Nat × Nat × List (Nat × List Int) × Mem) => { t := [(0, .optr (N + (7 + n)) 0 0 0), (1, .int c), (5, .int loan), (72, .int n), (73, .int q.1)], m := F ++ blk N ks ls e0 e4 life L q.2.1 I W q.2.2.1 (repE N pl lost (stF (dL pl L) st (plF (lkF ls life L n lost r I) q.1 0)) :: q.2.2.2), n := 121 }) (fun q => q.1 ≤ n ∧ q.2.2.1.map (·.2) = tO L n I) (fun q => n - q.1) (0, vi, T, H) ?_ ?_ ?_
      · rw [← hTl]
        (refine Le.of ?_ ?_ rfl rfl <;> (try simp only [push_cast, seval, getF hF, getF0 hF, get7, lentR_len, getF0 hTm, List.getElem?_cons_zero, he, hlv]) <;> (try (with_reducible rfl)))
        all_goals rfl
      · exact ⟨by simp, hT⟩
      · rintro ⟨j, vj, U, H1⟩ ⟨hj1, hj2⟩
        simp only at hj1 hj2
        have hUl : U.length = n := by have := congrArg List.length hj2; rw [List.length_map, tO_len] at this; exact this
        have hUm : (U.map lentE).length = n := by simpa using hUl
        have hst1 := hstep j
        have hnj := hne j
        have hend : j = n → lkS ls life L n pl lost (r + 1) I st = stF (dL pl L) st (plF (lkF ls life L n lost r I) j 0) := fun h => by rw [hfin, h]
        generalize hs1 : stF (dL pl L) st (plF (lkF ls life L n lost r I) j 0) = s1 at hst1 hnj hend
        repeat (first | apply Wp.seq | apply Wp.block | (apply Run.next; (simp only [push_cast, seval, getF hF, getF0 hF, get7, lentR_len, getF0 hUm, List.getElem?_cons_zero, hlv] <;> (try simp (disch := omega) only [wI, wU, wC]) <;> exact rfl); (focus ((try simp only [push_cast, seval, getF hF, getF0 hF, get7, lentR_len, getF0 hUm, List.getElem?_cons_zero, hlv]) <;> exact sT))) | ((first | apply Run.nil | apply Wp.skip); dsimp only [sQ, tQ, bQ]) | (apply Wp.run; (dsimp only [List.map] <;> exact rfl); exact rfl) | (apply Wp.exit; dsimp only [sQ, tQ, bQ]; simp only [reduceIte]))
        (apply Wp.cond; (simp only [push_cast, seval, getF hF, getF0 hF, get7, lentR_len, getF0 hUm, List.getElem?_cons_zero, hlv] <;> (try simp (disch := omega) only [wI, wU, wC]) <;> exact rfl))
        · intro hcc
          simp only [decide_eq_true_eq, Int.ofNat_lt] at hcc
          have hlg : ∀ d, (lentR N 7 U).getD j d = .osl (N + (7 + j)) (U.getD j (0, [])).1 0 (U.getD j (0, [])).2.length := fun d => lentR_getD d (by omega)
          have hUs := T_snd hj2 j
          have hle := tO_le L (n := n) I hcc
          have htb := tO_bd (ls := ls) hL (n := n) (I := I) hcc (by omega)
          rw [← hUs] at hle htb
          have hwb : 0 ≤ W.getD j 0 ∧ W.getD j 0 ≤ 10000 := by
            rw [← hW, wO_get ls L I hcc]
            have := sW_bd hub I (j : Int) I.length; omega
          have hUe : (U.map (·.2)).getD j [] = (U.getD j (0, [])).2 := by rw [hj2, hUs]
          have hft := fits_pure (ks := ks) (ls := ls) (life := life) (L := L) (I := I) (W := W) (T := U.map (·.2)) loan (j : Int) hlo (by rw [List.length_map]; omega) (by rw [List.length_map]; omega) hh20 (by rw [List.length_map]; omega) hlu (by rw [Int.toNat_natCast]; exact hwb) (by rw [Int.toNat_natCast, hUe]; exact htb) (by rw [Int.toNat_natCast, hUe]; omega)
          have hfo := fit_ok ls life L (n := n) I hcc
          rw [hW, hlv, ← hj2] at hfo
          rw [Int.toNat_natCast, hfo] at hft
          have hvw := blk_vw (G := repE N pl lost s1 :: H1) hF (ks := ks) (ls := ls) (e0 := e0) (e4 := e4) (life := life) (L := L) (vi := vj) (I := I) (W := W) (T := U)
          have hdj := hds j
          have hokx := okX_snoc ls life L lost I (j : Int)
          generalize hug : U.getD j (0, []) = u at hlg hUs hle htb hUe
          obtain ⟨uv, ul⟩ := u
          simp only at hlg hUs hle htb hUe
          by_cases hjl : (j : Int) = lost
          · have e1 : decide ((j : Int) = lost) = true := decide_eq_true hjl
            rw [hokx, e1, Bool.not_true, Bool.and_false, if_neg (by simp)] at hst1
            repeat (first | apply Wp.seq | apply Wp.block | (apply Run.next; (simp only [push_cast, seval, getF hF, getF0 hF, get7, lentR_len, getF0 hUm, List.getElem?_cons_zero, hlv, hlg, e1] <;> (try simp (disch := omega) only [wI, wU, wC]) <;> exact rfl); (focus ((try simp only [push_cast, seval, getF hF, getF0 hF, get7, lentR_len, getF0 hUm, List.getElem?_cons_zero, hlv, hlg, e1]) <;> exact sT))) | ((first | apply Run.nil | apply Wp.skip); dsimp only [sQ, tQ, bQ]) | (apply Wp.run; (dsimp only [List.map] <;> exact rfl); exact rfl) | (apply Wp.exit; dsimp only [sQ, tQ, bQ]; simp only [reduceIte]) | (apply Run.gtrue; (simp only [push_cast, seval, getF hF, getF0 hF, get7, lentR_len, getF0 hUm, List.getElem?_cons_zero, hlv, hlg, e1] <;> (try simp (disch := omega) only [wI, wU, wC]) <;> exact rfl); (simp only [push_cast, seval, getF hF, getF0 hF, get7, lentR_len, getF0 hUm, List.getElem?_cons_zero, hlv, hlg, e1] <;> (try simp (disch := omega) only [wI, wU, wC]) <;> exact rfl)) | (apply Run.gfalse (.bool false); (simp only [push_cast, seval, getF hF, getF0 hF, get7, lentR_len, getF0 hUm, List.getElem?_cons_zero, hlv, hlg, e1] <;> (try simp (disch := omega) only [wI, wU, wC]) <;> exact rfl); dsimp only [S.put, optG]) | (apply Wp.condT; (simp only [push_cast, seval, getF hF, getF0 hF, get7, lentR_len, getF0 hUm, List.getElem?_cons_zero, hlv, hlg, e1] <;> (try simp (disch := omega) only [wI, wU, wC]) <;> exact rfl)) | (apply Wp.condF; (simp only [push_cast, seval, getF hF, getF0 hF, get7, lentR_len, getF0 hUm, List.getElem?_cons_zero, hlv, hlg, e1] <;> (try simp (disch := omega) only [wI, wU, wC]) <;> exact rfl)))
            refine ⟨(j + 1, vj, U, H1), ?_, ⟨by simp only; omega, hj2⟩, by simp only; omega⟩
            simp only
            rw [hst1]
            (refine Le.of ?_ ?_ rfl rfl <;> (try simp only [push_cast, seval, getF hF, getF0 hF, get7, lentR_len, getF0 hUm, List.getElem?_cons_zero, hlv, hlg, e1]) <;> (try (with_reducible rfl)))
          · have e1 : decide ((j : Int) = lost) = false := decide_eq_false hjl
            rw [hokx, e1, Bool.not_false, Bool.and_true] at hst1
            cases hok : okK ls life L (I ++ [(j : Int)]) with
            | false =>
              rw [hok, if_neg (by simp)] at hst1
              rw [hok] at hft
              repeat (first | apply Wp.seq | apply Wp.block | (apply Run.next; (simp only [push_cast, seval, getF hF, getF0 hF, get7, lentR_len, getF0 hUm, List.getElem?_cons_zero, hlv, hlg, e1, hpv, hpl] <;> (try simp (disch := omega) only [wI, wU, wC]) <;> exact rfl); (focus ((try simp only [push_cast, seval, getF hF, getF0 hF, get7, lentR_len, getF0 hUm, List.getElem?_cons_zero, hlv, hlg, e1, hpv, hpl]) <;> exact sT))) | ((first | apply Run.nil | apply Wp.skip); dsimp only [sQ, tQ, bQ]) | (apply Wp.run; (dsimp only [List.map] <;> exact rfl); exact rfl) | (apply Wp.exit; dsimp only [sQ, tQ, bQ]; simp only [reduceIte]) | (apply Run.gtrue; (simp only [push_cast, seval, getF hF, getF0 hF, get7, lentR_len, getF0 hUm, List.getElem?_cons_zero, hlv, hlg, e1, hpv, hpl] <;> (try simp (disch := omega) only [wI, wU, wC]) <;> exact rfl); (simp only [push_cast, seval, getF hF, getF0 hF, get7, lentR_len, getF0 hUm, List.getElem?_cons_zero, hlv, hlg, e1, hpv, hpl] <;> (try simp (disch := omega) only [wI, wU, wC]) <;> exact rfl)) | (apply Run.gfalse (.bool false); (simp only [push_cast, seval, getF hF, getF0 hF, get7, lentR_len, getF0 hUm, List.getElem?_cons_zero, hlv, hlg, e1, hpv, hpl] <;> (try simp (disch := omega) only [wI, wU, wC]) <;> exact rfl); dsimp only [S.put, optG]) | (apply Wp.condT; (simp only [push_cast, seval, getF hF, getF0 hF, get7, lentR_len, getF0 hUm, List.getElem?_cons_zero, hlv, hlg, e1, hpv, hpl] <;> (try simp (disch := omega) only [wI, wU, wC]) <;> exact rfl)) | (apply Wp.condF; (simp only [push_cast, seval, getF hF, getF0 hF, get7, lentR_len, getF0 hUm, List.getElem?_cons_zero, hlv, hlg, e1, hpv, hpl] <;> (try simp (disch := omega) only [wI, wU, wC]) <;> exact rfl)))
              (apply Run.pureW; (simp only [push_cast, seval, getF hF, getF0 hF, get7, lentR_len, getF0 hUm, List.getElem?_cons_zero, hlv, hlg, e1, hpv, hpl] <;> (try simp (disch := omega) only [wI, wU, wC]) <;> exact rfl); (exact (Enters.of Try.func68 rfl rfl)); (exact hft); (exact VwL.cons hvw (VwL.cons (Vw.self trivial) (VwL.cons (Vw.self trivial) VwL.nil))); (simp only [push_cast, seval, getF hF, getF0 hF, get7, lentR_len, getF0 hUm, List.getElem?_cons_zero, hlv, hlg, e1, hpv, hpl] <;> first | trivial | assumption | (refine ⟨?_, ?_⟩ <;> assumption) | (simp; done)); (try dsimp only [putA, optG]))
              repeat (first | apply Wp.seq | apply Wp.block | (apply Run.next; (simp only [push_cast, seval, getF hF, getF0 hF, get7, lentR_len, getF0 hUm, List.getElem?_cons_zero, hlv, hlg, e1, hpv, hpl] <;> (try simp (disch := omega) only [wI, wU, wC]) <;> exact rfl); (focus ((try simp only [push_cast, seval, getF hF, getF0 hF, get7, lentR_len, getF0 hUm, List.getElem?_cons_zero, hlv, hlg, e1, hpv, hpl]) <;> exact sT))) | ((first | apply Run.nil | apply Wp.skip); dsimp only [sQ, tQ, bQ]) | (apply Wp.run; (dsimp only [List.map] <;> exact rfl); exact rfl) | (apply Wp.exit; dsimp only [sQ, tQ, bQ]; simp only [reduceIte]) | (apply Run.gtrue; (simp only [push_cast, seval, getF hF, getF0 hF, get7, lentR_len, getF0 hUm, List.getElem?_cons_zero, hlv, hlg, e1, hpv, hpl] <;> (try simp (disch := omega) only [wI, wU, wC]) <;> exact rfl); (simp only [push_cast, seval, getF hF, getF0 hF, get7, lentR_len, getF0 hUm, List.getElem?_cons_zero, hlv, hlg, e1, hpv, hpl] <;> (try simp (disch := omega) only [wI, wU, wC]) <;> exact rfl)) | (apply Run.gfalse (.bool false); (simp only [push_cast, seval, getF hF, getF0 hF, get7, lentR_len, getF0 hUm, List.getElem?_cons_zero, hlv, hlg, e1, hpv, hpl] <;> (try simp (disch := omega) only [wI, wU, wC]) <;> exact rfl); dsimp only [S.put, optG]) | (apply Wp.condT; (simp only [push_cast, seval, getF hF, getF0 hF, get7, lentR_len, getF0 hUm, List.getElem?_cons_zero, hlv, hlg, e1, hpv, hpl] <;> (try simp (disch := omega) only [wI, wU, wC]) <;> exact rfl)) | (apply Wp.condF; (simp only [push_cast, seval, getF hF, getF0 hF, get7, lentR_len, getF0 hUm, List.getElem?_cons_zero, hlv, hlg, e1, hpv, hpl] <;> (try simp (disch := omega) only [wI, wU, wC]) <;> exact rfl)))
              refine ⟨(j + 1, vj, U, H1), ?_, ⟨by simp only; omega, hj2⟩, by simp only; omega⟩
              simp only
              rw [hst1]
              (refine Le.of ?_ ?_ rfl rfl <;> (try simp only [push_cast, seval, getF hF, getF0 hF, get7, lentR_len, getF0 hUm, List.getElem?_cons_zero, hlv, hlg, e1, hpv, hpl]) <;> (try (with_reducible rfl)))
            | true =>
              rw [hok, if_pos rfl] at hst1
              rw [hok] at hft
              have hlend := lend_spec (G := repE N pl lost s1 :: H1) hF (ks := ks) (ls := ls) (e0 := e0) (e4 := e4) (life := life) (L := L) (vi := vj) (I := I) (W := W) (T := U) loan (j : Int) hlo (by omega) (by omega) hh20 (by omega) (by omega) hlu (by rw [Int.toNat_natCast]; exact hwb) (by rw [Int.toNat_natCast, hug]; simp only; omega)
              have hws := wO_snoc ls L (n := n) I hcc
              have huL : uL ls L I.length = (ls.getD loan.toNat ln0).uses := by unfold uL; rw [hlv]
              rw [huL, hW] at hws
              have hls := lentT_snd hj2 hcc
              rw [hlv] at hls
              have hih := ih (F := F) (H := H1) hF (e0 := e0) (e4 := e4) (vi := vj + 1) (I := I ++ [(j : Int)]) (T := lentT U j loan) (st := s1) (by simp; omega) (by
                intro x hx
                rw [List.mem_append, List.mem_singleton] at hx
                rcases hx with hx | hx
                · exact hI x hx
                · omega) hls hnj
              rw [Int.toNat_natCast, ← hws] at hlend
              rw [← hst1] at hih
              have hwb2 := wO_back ls L (n := n) I hcc
              rw [huL, hW] at hwb2
              have hwl2 := wO_len ls L n (I ++ [(j : Int)])
              have hwg2 : 0 ≤ (wO ls L n (I ++ [(j : Int)])).getD j 0 ∧ (wO ls L n (I ++ [(j : Int)])).getD j 0 ≤ 10000 := by
                rw [wO_get ls L _ hcc]
                have := sW_bd hub (I ++ [(j : Int)]) (j : Int) (I ++ [(j : Int)]).length
                rw [List.length_append, List.length_cons, List.length_nil] at this ⊢
                omega
              generalize hs2 : stF (dL pl L) st (plF (lkF ls life L n lost r I) (j + 1) 0) = s2 at hst1 hih
              generalize hW2 : wO ls L n (I ++ [(j : Int)]) = W2 at hwb2 hwl2 hwg2 hih hlend
              by_cases hpj : pv = (j : Int)
              · rw [if_pos hpj] at hdj
                have e2 : decide (pv = (j : Int)) = true := decide_eq_true hpj
                rw [hdj] at hih
                repeat (first | apply Wp.seq | apply Wp.block | (apply Run.next; (simp only [push_cast, seval, getF hF, getF0 hF, get7, lentR_len, getF0 hUm, List.getElem?_cons_zero, hlv, hlg, e1, e2, hpv, hpl] <;> (try simp (disch := omega) only [wI, wU, wC]) <;> exact rfl); (focus ((try simp only [push_cast, seval, getF hF, getF0 hF, get7, lentR_len, getF0 hUm, List.getElem?_cons_zero, hlv, hlg, e1, e2, hpv, hpl]) <;> exact sT))) | ((first | apply Run.nil | apply Wp.skip); dsimp only [sQ, tQ, bQ]) | (apply Wp.run; (dsimp only [List.map] <;> exact rfl); exact rfl) | (apply Wp.exit; dsimp only [sQ, tQ, bQ]; simp only [reduceIte]) | (apply Run.gtrue; (simp only [push_cast, seval, getF hF, getF0 hF, get7, lentR_len, getF0 hUm, List.getElem?_cons_zero, hlv, hlg, e1, e2, hpv, hpl] <;> (try simp (disch := omega) only [wI, wU, wC]) <;> exact rfl); (simp only [push_cast, seval, getF hF, getF0 hF, get7, lentR_len, getF0 hUm, List.getElem?_cons_zero, hlv, hlg, e1, e2, hpv, hpl] <;> (try simp (disch := omega) only [wI, wU, wC]) <;> exact rfl)) | (apply Run.gfalse (.bool false); (simp only [push_cast, seval, getF hF, getF0 hF, get7, lentR_len, getF0 hUm, List.getElem?_cons_zero, hlv, hlg, e1, e2, hpv, hpl] <;> (try simp (disch := omega) only [wI, wU, wC]) <;> exact rfl); dsimp only [S.put, optG]) | (apply Wp.condT; (simp only [push_cast, seval, getF hF, getF0 hF, get7, lentR_len, getF0 hUm, List.getElem?_cons_zero, hlv, hlg, e1, e2, hpv, hpl] <;> (try simp (disch := omega) only [wI, wU, wC]) <;> exact rfl)) | (apply Wp.condF; (simp only [push_cast, seval, getF hF, getF0 hF, get7, lentR_len, getF0 hUm, List.getElem?_cons_zero, hlv, hlg, e1, e2, hpv, hpl] <;> (try simp (disch := omega) only [wI, wU, wC]) <;> exact rfl)))
                (apply Run.pureW; (simp only [push_cast, seval, getF hF, getF0 hF, get7, lentR_len, getF0 hUm, List.getElem?_cons_zero, hlv, hlg, e1, e2, hpv, hpl] <;> (try simp (disch := omega) only [wI, wU, wC]) <;> exact rfl); (exact (Enters.of Try.func68 rfl rfl)); (exact hft); (exact VwL.cons hvw (VwL.cons (Vw.self trivial) (VwL.cons (Vw.self trivial) VwL.nil))); (simp only [push_cast, seval, getF hF, getF0 hF, get7, lentR_len, getF0 hUm, List.getElem?_cons_zero, hlv, hlg, e1, e2, hpv, hpl] <;> first | trivial | assumption | (refine ⟨?_, ?_⟩ <;> assumption) | (simp; done)); (try dsimp only [putA, optG]))
                repeat (first | apply Wp.seq | apply Wp.block | (apply Run.next; (simp only [push_cast, seval, getF hF, getF0 hF, get7, lentR_len, getF0 hUm, List.getElem?_cons_zero, hlv, hlg, e1, e2, hpv, hpl] <;> (try simp (disch := omega) only [wI, wU, wC]) <;> exact rfl); (focus ((try simp only [push_cast, seval, getF hF, getF0 hF, get7, lentR_len, getF0 hUm, List.getElem?_cons_zero, hlv, hlg, e1, e2, hpv, hpl]) <;> exact sT))) | ((first | apply Run.nil | apply Wp.skip); dsimp only [sQ, tQ, bQ]) | (apply Wp.run; (dsimp only [List.map] <;> exact rfl); exact rfl) | (apply Wp.exit; dsimp only [sQ, tQ, bQ]; simp only [reduceIte]) | (apply Run.gtrue; (simp only [push_cast, seval, getF hF, getF0 hF, get7, lentR_len, getF0 hUm, List.getElem?_cons_zero, hlv, hlg, e1, e2, hpv, hpl] <;> (try simp (disch := omega) only [wI, wU, wC]) <;> exact rfl); (simp only [push_cast, seval, getF hF, getF0 hF, get7, lentR_len, getF0 hUm, List.getElem?_cons_zero, hlv, hlg, e1, e2, hpv, hpl] <;> (try simp (disch := omega) only [wI, wU, wC]) <;> exact rfl)) | (apply Run.gfalse (.bool false); (simp only [push_cast, seval, getF hF, getF0 hF, get7, lentR_len, getF0 hUm, List.getElem?_cons_zero, hlv, hlg, e1, e2, hpv, hpl] <;> (try simp (disch := omega) only [wI, wU, wC]) <;> exact rfl); dsimp only [S.put, optG]) | (apply Wp.condT; (simp only [push_cast, seval, getF hF, getF0 hF, get7, lentR_len, getF0 hUm, List.getElem?_cons_zero, hlv, hlg, e1, e2, hpv, hpl] <;> (try simp (disch := omega) only [wI, wU, wC]) <;> exact rfl)) | (apply Wp.condF; (simp only [push_cast, seval, getF hF, getF0 hF, get7, lentR_len, getF0 hUm, List.getElem?_cons_zero, hlv, hlg, e1, e2, hpv, hpl] <;> (try simp (disch := omega) only [wI, wU, wC]) <;> exact rfl)))
                apply Run.spec (he := Enters.of Try.func69 rfl rfl) (hc := hlend)
                focus exact rfl
                focus (simp only [push_cast, seval, getF hF, getF0 hF, get7, lentR_len, getF0 hUm, List.getElem?_cons_zero, hlv, hlg, e1, e2, hpv, hpl] <;> exact rfl)
                focus (simp only [push_cast, seval, getF hF, getF0 hF, get7, lentR_len, getF0 hUm, List.getElem?_cons_zero, hlv, hlg, e1, e2, hpv, hpl] <;> (try simp (disch := omega) only [wI, wU, wC]) <;> exact rfl)
                rintro x' m' rfl
                dsimp only [S.put, optG]
                repeat (first | apply Wp.seq | apply Wp.block | (apply Run.next; (simp only [push_cast, seval, getF hF, getF0 hF, get7, lentR_len, getF0 hUm, List.getElem?_cons_zero, hlv, hlg, e1, e2, hpv, hpl] <;> (try simp (disch := omega) only [wI, wU, wC]) <;> exact rfl); (focus ((try simp only [push_cast, seval, getF hF, getF0 hF, get7, lentR_len, getF0 hUm, List.getElem?_cons_zero, hlv, hlg, e1, e2, hpv, hpl]) <;> exact sT))) | ((first | apply Run.nil | apply Wp.skip); dsimp only [sQ, tQ, bQ]) | (apply Wp.run; (dsimp only [List.map] <;> exact rfl); exact rfl) | (apply Wp.exit; dsimp only [sQ, tQ, bQ]; simp only [reduceIte]) | (apply Run.gtrue; (simp only [push_cast, seval, getF hF, getF0 hF, get7, lentR_len, getF0 hUm, List.getElem?_cons_zero, hlv, hlg, e1, e2, hpv, hpl] <;> (try simp (disch := omega) only [wI, wU, wC]) <;> exact rfl); (simp only [push_cast, seval, getF hF, getF0 hF, get7, lentR_len, getF0 hUm, List.getElem?_cons_zero, hlv, hlg, e1, e2, hpv, hpl] <;> (try simp (disch := omega) only [wI, wU, wC]) <;> exact rfl)) | (apply Run.gfalse (.bool false); (simp only [push_cast, seval, getF hF, getF0 hF, get7, lentR_len, getF0 hUm, List.getElem?_cons_zero, hlv, hlg, e1, e2, hpv, hpl] <;> (try simp (disch := omega) only [wI, wU, wC]) <;> exact rfl); dsimp only [S.put, optG]) | (apply Wp.condT; (simp only [push_cast, seval, getF hF, getF0 hF, get7, lentR_len, getF0 hUm, List.getElem?_cons_zero, hlv, hlg, e1, e2, hpv, hpl] <;> (try simp (disch := omega) only [wI, wU, wC]) <;> exact rfl)) | (apply Wp.condF; (simp only [push_cast, seval, getF hF, getF0 hF, get7, lentR_len, getF0 hUm, List.getElem?_cons_zero, hlv, hlg, e1, e2, hpv, hpl] <;> (try simp (disch := omega) only [wI, wU, wC]) <;> exact rfl)))
                apply Run.spec (he := Enters.of Try.func75 rfl rfl) (hc := hih)
                focus exact rfl
                focus (simp only [push_cast, seval, getF hF, getF0 hF, get7, lentR_len, getF0 hUm, List.getElem?_cons_zero, hlv, hlg, e1, e2, hpv, hpl] <;> exact rfl)
                focus (simp only [push_cast, seval, getF hF, getF0 hF, get7, lentR_len, getF0 hUm, List.getElem?_cons_zero, hlv, hlg, e1, e2, hpv, hpl] <;> (try simp (disch := omega) only [wI, wU, wC]) <;> exact rfl)
                rintro x' m' ⟨v2, U2, H2, h2, rfl⟩
                have hU2l : U2.length = n := by have := congrArg List.length h2; rw [List.length_map, tO_len] at this; exact this
                have hU2m : (U2.map lentE).length = n := by simpa using hU2l
                have hbs := backT_snd h2 hcc
                have h2l : 1 ≤ (U2.getD j (0, [])).2.length ∧ (U2.getD j (0, [])).2.length ≤ 1000 := by
                  rw [T_snd h2 j]
                  constructor
                  · have := (lent_mem (L := L) (n := n) (I := I ++ [(j : Int)]) hcc)
                    have h9 : ¬ ((tO L n (I ++ [(j : Int)])).getD j []).length = 0 := fun h => this.1 h (by simp)
                    omega
                  · have := tO_le L (n := n) (I ++ [(j : Int)]) hcc
                    rw [List.length_append, List.length_cons, List.length_nil] at this
                    omega
                have hback := back_spec (G := repE N pl lost s2 :: H2) hF (ks := ks) (ls := ls) (e0 := e0) (e4 := e4) (life := life) (L := L) (vi := v2) (I := I) (W := W2) (T := U2) loan (j : Int) hlo (by omega) (by omega) hh20 (by omega) (by omega) hlu (by rw [Int.toNat_natCast]; exact hwg2) (by rw [Int.toNat_natCast]; exact h2l)
                rw [Int.toNat_natCast, hwb2] at hback
                rw [hW2]
                dsimp only [S.put, optG]
                repeat (first | apply Wp.seq | apply Wp.block | (apply Run.next; (simp only [push_cast, seval, getF hF, getF0 hF, get7, lentR_len, getF0 hU2m, List.getElem?_cons_zero, hlv] <;> (try simp (disch := omega) only [wI, wU, wC]) <;> exact rfl); (focus ((try simp only [push_cast, seval, getF hF, getF0 hF, get7, lentR_len, getF0 hU2m, List.getElem?_cons_zero, hlv]) <;> exact sT))) | ((first | apply Run.nil | apply Wp.skip); dsimp only [sQ, tQ, bQ]) | (apply Wp.run; (dsimp only [List.map] <;> exact rfl); exact rfl) | (apply Wp.exit; dsimp only [sQ, tQ, bQ]; simp only [reduceIte]) | (apply Run.gtrue; (simp only [push_cast, seval, getF hF, getF0 hF, get7, lentR_len, getF0 hU2m, List.getElem?_cons_zero, hlv] <;> (try simp (disch := omega) only [wI, wU, wC]) <;> exact rfl); (simp only [push_cast, seval, getF hF, getF0 hF, get7, lentR_len, getF0 hU2m, List.getElem?_cons_zero, hlv] <;> (try simp (disch := omega) only [wI, wU, wC]) <;> exact rfl)) | (apply Run.gfalse (.bool false); (simp only [push_cast, seval, getF hF, getF0 hF, get7, lentR_len, getF0 hU2m, List.getElem?_cons_zero, hlv] <;> (try simp (disch := omega) only [wI, wU, wC]) <;> exact rfl); dsimp only [S.put, optG]) | (apply Wp.condT; (simp only [push_cast, seval, getF hF, getF0 hF, get7, lentR_len, getF0 hU2m, List.getElem?_cons_zero, hlv] <;> (try simp (disch := omega) only [wI, wU, wC]) <;> exact rfl)) | (apply Wp.condF; (simp only [push_cast, seval, getF hF, getF0 hF, get7, lentR_len, getF0 hU2m, List.getElem?_cons_zero, hlv] <;> (try simp (disch := omega) only [wI, wU, wC]) <;> exact rfl)))
                apply Run.spec (he := Enters.of Try.func84 rfl rfl) (hc := hback)
                focus exact rfl
                focus (simp only [push_cast, seval, getF hF, getF0 hF, get7, lentR_len, getF0 hU2m, List.getElem?_cons_zero, hlv] <;> exact rfl)
                focus (simp only [push_cast, seval, getF hF, getF0 hF, get7, lentR_len, getF0 hU2m, List.getElem?_cons_zero, hlv] <;> (try simp (disch := omega) only [wI, wU, wC]) <;> exact rfl)
                rintro x' m' rfl
                dsimp only [S.put, optG]
                repeat (first | apply Wp.seq | apply Wp.block | (apply Run.next; (simp only [push_cast, seval, getF hF, getF0 hF, get7, lentR_len, getF0 hU2m, List.getElem?_cons_zero, hlv] <;> (try simp (disch := omega) only [wI, wU, wC]) <;> exact rfl); (focus ((try simp only [push_cast, seval, getF hF, getF0 hF, get7, lentR_len, getF0 hU2m, List.getElem?_cons_zero, hlv]) <;> exact sT))) | ((first | apply Run.nil | apply Wp.skip); dsimp only [sQ, tQ, bQ]) | (apply Wp.run; (dsimp only [List.map] <;> exact rfl); exact rfl) | (apply Wp.exit; dsimp only [sQ, tQ, bQ]; simp only [reduceIte]) | (apply Run.gtrue; (simp only [push_cast, seval, getF hF, getF0 hF, get7, lentR_len, getF0 hU2m, List.getElem?_cons_zero, hlv] <;> (try simp (disch := omega) only [wI, wU, wC]) <;> exact rfl); (simp only [push_cast, seval, getF hF, getF0 hF, get7, lentR_len, getF0 hU2m, List.getElem?_cons_zero, hlv] <;> (try simp (disch := omega) only [wI, wU, wC]) <;> exact rfl)) | (apply Run.gfalse (.bool false); (simp only [push_cast, seval, getF hF, getF0 hF, get7, lentR_len, getF0 hU2m, List.getElem?_cons_zero, hlv] <;> (try simp (disch := omega) only [wI, wU, wC]) <;> exact rfl); dsimp only [S.put, optG]) | (apply Wp.condT; (simp only [push_cast, seval, getF hF, getF0 hF, get7, lentR_len, getF0 hU2m, List.getElem?_cons_zero, hlv] <;> (try simp (disch := omega) only [wI, wU, wC]) <;> exact rfl)) | (apply Wp.condF; (simp only [push_cast, seval, getF hF, getF0 hF, get7, lentR_len, getF0 hU2m, List.getElem?_cons_zero, hlv] <;> (try simp (disch := omega) only [wI, wU, wC]) <;> exact rfl)))
                refine ⟨(j + 1, v2, backT U2 j, H2), ?_, ⟨by simp only; omega, hbs⟩, by simp only; omega⟩
                simp only
                rw [hs2]
                (refine Le.of ?_ ?_ rfl rfl <;> (try simp only [push_cast, seval, getF hF, getF0 hF, get7, lentR_len, getF0 hU2m, List.getElem?_cons_zero, hlv]) <;> (try (with_reducible rfl)))
              · rw [if_neg hpj] at hdj
                have e2 : decide (pv = (j : Int)) = false := decide_eq_false hpj
                rw [hdj] at hih
                repeat (first | apply Wp.seq | apply Wp.block | (apply Run.next; (simp only [push_cast, seval, getF hF, getF0 hF, get7, lentR_len, getF0 hUm, List.getElem?_cons_zero, hlv, hlg, e1, e2, hpv, hpl] <;> (try simp (disch := omega) only [wI, wU, wC]) <;> exact rfl); (focus ((try simp only [push_cast, seval, getF hF, getF0 hF, get7, lentR_len, getF0 hUm, List.getElem?_cons_zero, hlv, hlg, e1, e2, hpv, hpl]) <;> exact sT))) | ((first | apply Run.nil | apply Wp.skip); dsimp only [sQ, tQ, bQ]) | (apply Wp.run; (dsimp only [List.map] <;> exact rfl); exact rfl) | (apply Wp.exit; dsimp only [sQ, tQ, bQ]; simp only [reduceIte]) | (apply Run.gtrue; (simp only [push_cast, seval, getF hF, getF0 hF, get7, lentR_len, getF0 hUm, List.getElem?_cons_zero, hlv, hlg, e1, e2, hpv, hpl] <;> (try simp (disch := omega) only [wI, wU, wC]) <;> exact rfl); (simp only [push_cast, seval, getF hF, getF0 hF, get7, lentR_len, getF0 hUm, List.getElem?_cons_zero, hlv, hlg, e1, e2, hpv, hpl] <;> (try simp (disch := omega) only [wI, wU, wC]) <;> exact rfl)) | (apply Run.gfalse (.bool false); (simp only [push_cast, seval, getF hF, getF0 hF, get7, lentR_len, getF0 hUm, List.getElem?_cons_zero, hlv, hlg, e1, e2, hpv, hpl] <;> (try simp (disch := omega) only [wI, wU, wC]) <;> exact rfl); dsimp only [S.put, optG]) | (apply Wp.condT; (simp only [push_cast, seval, getF hF, getF0 hF, get7, lentR_len, getF0 hUm, List.getElem?_cons_zero, hlv, hlg, e1, e2, hpv, hpl] <;> (try simp (disch := omega) only [wI, wU, wC]) <;> exact rfl)) | (apply Wp.condF; (simp only [push_cast, seval, getF hF, getF0 hF, get7, lentR_len, getF0 hUm, List.getElem?_cons_zero, hlv, hlg, e1, e2, hpv, hpl] <;> (try simp (disch := omega) only [wI, wU, wC]) <;> exact rfl)))
                (apply Run.pureW; (simp only [push_cast, seval, getF hF, getF0 hF, get7, lentR_len, getF0 hUm, List.getElem?_cons_zero, hlv, hlg, e1, e2, hpv, hpl] <;> (try simp (disch := omega) only [wI, wU, wC]) <;> exact rfl); (exact (Enters.of Try.func68 rfl rfl)); (exact hft); (exact VwL.cons hvw (VwL.cons (Vw.self trivial) (VwL.cons (Vw.self trivial) VwL.nil))); (simp only [push_cast, seval, getF hF, getF0 hF, get7, lentR_len, getF0 hUm, List.getElem?_cons_zero, hlv, hlg, e1, e2, hpv, hpl] <;> first | trivial | assumption | (refine ⟨?_, ?_⟩ <;> assumption) | (simp; done)); (try dsimp only [putA, optG]))
                repeat (first | apply Wp.seq | apply Wp.block | (apply Run.next; (simp only [push_cast, seval, getF hF, getF0 hF, get7, lentR_len, getF0 hUm, List.getElem?_cons_zero, hlv, hlg, e1, e2, hpv, hpl] <;> (try simp (disch := omega) only [wI, wU, wC]) <;> exact rfl); (focus ((try simp only [push_cast, seval, getF hF, getF0 hF, get7, lentR_len, getF0 hUm, List.getElem?_cons_zero, hlv, hlg, e1, e2, hpv, hpl]) <;> exact sT))) | ((first | apply Run.nil | apply Wp.skip); dsimp only [sQ, tQ, bQ]) | (apply Wp.run; (dsimp only [List.map] <;> exact rfl); exact rfl) | (apply Wp.exit; dsimp only [sQ, tQ, bQ]; simp only [reduceIte]) | (apply Run.gtrue; (simp only [push_cast, seval, getF hF, getF0 hF, get7, lentR_len, getF0 hUm, List.getElem?_cons_zero, hlv, hlg, e1, e2, hpv, hpl] <;> (try simp (disch := omega) only [wI, wU, wC]) <;> exact rfl); (simp only [push_cast, seval, getF hF, getF0 hF, get7, lentR_len, getF0 hUm, List.getElem?_cons_zero, hlv, hlg, e1, e2, hpv, hpl] <;> (try simp (disch := omega) only [wI, wU, wC]) <;> exact rfl)) | (apply Run.gfalse (.bool false); (simp only [push_cast, seval, getF hF, getF0 hF, get7, lentR_len, getF0 hUm, List.getElem?_cons_zero, hlv, hlg, e1, e2, hpv, hpl] <;> (try simp (disch := omega) only [wI, wU, wC]) <;> exact rfl); dsimp only [S.put, optG]) | (apply Wp.condT; (simp only [push_cast, seval, getF hF, getF0 hF, get7, lentR_len, getF0 hUm, List.getElem?_cons_zero, hlv, hlg, e1, e2, hpv, hpl] <;> (try simp (disch := omega) only [wI, wU, wC]) <;> exact rfl)) | (apply Wp.condF; (simp only [push_cast, seval, getF hF, getF0 hF, get7, lentR_len, getF0 hUm, List.getElem?_cons_zero, hlv, hlg, e1, e2, hpv, hpl] <;> (try simp (disch := omega) only [wI, wU, wC]) <;> exact rfl)))
                apply Run.spec (he := Enters.of Try.func69 rfl rfl) (hc := hlend)
                focus exact rfl
                focus (simp only [push_cast, seval, getF hF, getF0 hF, get7, lentR_len, getF0 hUm, List.getElem?_cons_zero, hlv, hlg, e1, e2, hpv, hpl] <;> exact rfl)
                focus (simp only [push_cast, seval, getF hF, getF0 hF, get7, lentR_len, getF0 hUm, List.getElem?_cons_zero, hlv, hlg, e1, e2, hpv, hpl] <;> (try simp (disch := omega) only [wI, wU, wC]) <;> exact rfl)
                rintro x' m' rfl
                dsimp only [S.put, optG]
                repeat (first | apply Wp.seq | apply Wp.block | (apply Run.next; (simp only [push_cast, seval, getF hF, getF0 hF, get7, lentR_len, getF0 hUm, List.getElem?_cons_zero, hlv, hlg, e1, e2, hpv, hpl] <;> (try simp (disch := omega) only [wI, wU, wC]) <;> exact rfl); (focus ((try simp only [push_cast, seval, getF hF, getF0 hF, get7, lentR_len, getF0 hUm, List.getElem?_cons_zero, hlv, hlg, e1, e2, hpv, hpl]) <;> exact sT))) | ((first | apply Run.nil | apply Wp.skip); dsimp only [sQ, tQ, bQ]) | (apply Wp.run; (dsimp only [List.map] <;> exact rfl); exact rfl) | (apply Wp.exit; dsimp only [sQ, tQ, bQ]; simp only [reduceIte]) | (apply Run.gtrue; (simp only [push_cast, seval, getF hF, getF0 hF, get7, lentR_len, getF0 hUm, List.getElem?_cons_zero, hlv, hlg, e1, e2, hpv, hpl] <;> (try simp (disch := omega) only [wI, wU, wC]) <;> exact rfl); (simp only [push_cast, seval, getF hF, getF0 hF, get7, lentR_len, getF0 hUm, List.getElem?_cons_zero, hlv, hlg, e1, e2, hpv, hpl] <;> (try simp (disch := omega) only [wI, wU, wC]) <;> exact rfl)) | (apply Run.gfalse (.bool false); (simp only [push_cast, seval, getF hF, getF0 hF, get7, lentR_len, getF0 hUm, List.getElem?_cons_zero, hlv, hlg, e1, e2, hpv, hpl] <;> (try simp (disch := omega) only [wI, wU, wC]) <;> exact rfl); dsimp only [S.put, optG]) | (apply Wp.condT; (simp only [push_cast, seval, getF hF, getF0 hF, get7, lentR_len, getF0 hUm, List.getElem?_cons_zero, hlv, hlg, e1, e2, hpv, hpl] <;> (try simp (disch := omega) only [wI, wU, wC]) <;> exact rfl)) | (apply Wp.condF; (simp only [push_cast, seval, getF hF, getF0 hF, get7, lentR_len, getF0 hUm, List.getElem?_cons_zero, hlv, hlg, e1, e2, hpv, hpl] <;> (try simp (disch := omega) only [wI, wU, wC]) <;> exact rfl)))
                apply Run.spec (he := Enters.of Try.func75 rfl rfl) (hc := hih)
                focus exact rfl
                focus (simp only [push_cast, seval, getF hF, getF0 hF, get7, lentR_len, getF0 hUm, List.getElem?_cons_zero, hlv, hlg, e1, e2, hpv, hpl] <;> exact rfl)
                focus (simp only [push_cast, seval, getF hF, getF0 hF, get7, lentR_len, getF0 hUm, List.getElem?_cons_zero, hlv, hlg, e1, e2, hpv, hpl] <;> (try simp (disch := omega) only [wI, wU, wC]) <;> exact rfl)
                rintro x' m' ⟨v2, U2, H2, h2, rfl⟩
                have hU2l : U2.length = n := by have := congrArg List.length h2; rw [List.length_map, tO_len] at this; exact this
                have hU2m : (U2.map lentE).length = n := by simpa using hU2l
                have hbs := backT_snd h2 hcc
                have h2l : 1 ≤ (U2.getD j (0, [])).2.length ∧ (U2.getD j (0, [])).2.length ≤ 1000 := by
                  rw [T_snd h2 j]
                  constructor
                  · have := (lent_mem (L := L) (n := n) (I := I ++ [(j : Int)]) hcc)
                    have h9 : ¬ ((tO L n (I ++ [(j : Int)])).getD j []).length = 0 := fun h => this.1 h (by simp)
                    omega
                  · have := tO_le L (n := n) (I ++ [(j : Int)]) hcc
                    rw [List.length_append, List.length_cons, List.length_nil] at this
                    omega
                have hback := back_spec (G := repE N pl lost s2 :: H2) hF (ks := ks) (ls := ls) (e0 := e0) (e4 := e4) (life := life) (L := L) (vi := v2) (I := I) (W := W2) (T := U2) loan (j : Int) hlo (by omega) (by omega) hh20 (by omega) (by omega) hlu (by rw [Int.toNat_natCast]; exact hwg2) (by rw [Int.toNat_natCast]; exact h2l)
                rw [Int.toNat_natCast, hwb2] at hback
                rw [hW2]
                dsimp only [S.put, optG]
                repeat (first | apply Wp.seq | apply Wp.block | (apply Run.next; (simp only [push_cast, seval, getF hF, getF0 hF, get7, lentR_len, getF0 hU2m, List.getElem?_cons_zero, hlv] <;> (try simp (disch := omega) only [wI, wU, wC]) <;> exact rfl); (focus ((try simp only [push_cast, seval, getF hF, getF0 hF, get7, lentR_len, getF0 hU2m, List.getElem?_cons_zero, hlv]) <;> exact sT))) | ((first | apply Run.nil | apply Wp.skip); dsimp only [sQ, tQ, bQ]) | (apply Wp.run; (dsimp only [List.map] <;> exact rfl); exact rfl) | (apply Wp.exit; dsimp only [sQ, tQ, bQ]; simp only [reduceIte]) | (apply Run.gtrue; (simp only [push_cast, seval, getF hF, getF0 hF, get7, lentR_len, getF0 hU2m, List.getElem?_cons_zero, hlv] <;> (try simp (disch := omega) only [wI, wU, wC]) <;> exact rfl); (simp only [push_cast, seval, getF hF, getF0 hF, get7, lentR_len, getF0 hU2m, List.getElem?_cons_zero, hlv] <;> (try simp (disch := omega) only [wI, wU, wC]) <;> exact rfl)) | (apply Run.gfalse (.bool false); (simp only [push_cast, seval, getF hF, getF0 hF, get7, lentR_len, getF0 hU2m, List.getElem?_cons_zero, hlv] <;> (try simp (disch := omega) only [wI, wU, wC]) <;> exact rfl); dsimp only [S.put, optG]) | (apply Wp.condT; (simp only [push_cast, seval, getF hF, getF0 hF, get7, lentR_len, getF0 hU2m, List.getElem?_cons_zero, hlv] <;> (try simp (disch := omega) only [wI, wU, wC]) <;> exact rfl)) | (apply Wp.condF; (simp only [push_cast, seval, getF hF, getF0 hF, get7, lentR_len, getF0 hU2m, List.getElem?_cons_zero, hlv] <;> (try simp (disch := omega) only [wI, wU, wC]) <;> exact rfl)))
                apply Run.spec (he := Enters.of Try.func84 rfl rfl) (hc := hback)
                focus exact rfl
                focus (simp only [push_cast, seval, getF hF, getF0 hF, get7, lentR_len, getF0 hU2m, List.getElem?_cons_zero, hlv] <;> exact rfl)
                focus (simp only [push_cast, seval, getF hF, getF0 hF, get7, lentR_len, getF0 hU2m, List.getElem?_cons_zero, hlv] <;> (try simp (disch := omega) only [wI, wU, wC]) <;> exact rfl)
                rintro x' m' rfl
                dsimp only [S.put, optG]
                repeat (first | apply Wp.seq | apply Wp.block | (apply Run.next; (simp only [push_cast, seval, getF hF, getF0 hF, get7, lentR_len, getF0 hU2m, List.getElem?_cons_zero, hlv] <;> (try simp (disch := omega) only [wI, wU, wC]) <;> exact rfl); (focus ((try simp only [push_cast, seval, getF hF, getF0 hF, get7, lentR_len, getF0 hU2m, List.getElem?_cons_zero, hlv]) <;> exact sT))) | ((first | apply Run.nil | apply Wp.skip); dsimp only [sQ, tQ, bQ]) | (apply Wp.run; (dsimp only [List.map] <;> exact rfl); exact rfl) | (apply Wp.exit; dsimp only [sQ, tQ, bQ]; simp only [reduceIte]) | (apply Run.gtrue; (simp only [push_cast, seval, getF hF, getF0 hF, get7, lentR_len, getF0 hU2m, List.getElem?_cons_zero, hlv] <;> (try simp (disch := omega) only [wI, wU, wC]) <;> exact rfl); (simp only [push_cast, seval, getF hF, getF0 hF, get7, lentR_len, getF0 hU2m, List.getElem?_cons_zero, hlv] <;> (try simp (disch := omega) only [wI, wU, wC]) <;> exact rfl)) | (apply Run.gfalse (.bool false); (simp only [push_cast, seval, getF hF, getF0 hF, get7, lentR_len, getF0 hU2m, List.getElem?_cons_zero, hlv] <;> (try simp (disch := omega) only [wI, wU, wC]) <;> exact rfl); dsimp only [S.put, optG]) | (apply Wp.condT; (simp only [push_cast, seval, getF hF, getF0 hF, get7, lentR_len, getF0 hU2m, List.getElem?_cons_zero, hlv] <;> (try simp (disch := omega) only [wI, wU, wC]) <;> exact rfl)) | (apply Wp.condF; (simp only [push_cast, seval, getF hF, getF0 hF, get7, lentR_len, getF0 hU2m, List.getElem?_cons_zero, hlv] <;> (try simp (disch := omega) only [wI, wU, wC]) <;> exact rfl)))
                refine ⟨(j + 1, v2, backT U2 j, H2), ?_, ⟨by simp only; omega, hbs⟩, by simp only; omega⟩
                simp only
                rw [hs2]
                (refine Le.of ?_ ?_ rfl rfl <;> (try simp only [push_cast, seval, getF hF, getF0 hF, get7, lentR_len, getF0 hU2m, List.getElem?_cons_zero, hlv]) <;> (try (with_reducible rfl)))
        · intro hcc
          simp only [decide_eq_false_iff_not, Int.ofNat_lt] at hcc
          obtain rfl : j = n := by omega
          repeat (first | apply Wp.seq | apply Wp.block | (apply Run.next; (simp only [push_cast, seval, getF hF, getF0 hF, get7, lentR_len, getF0 hUm, List.getElem?_cons_zero, hlv] <;> (try simp (disch := omega) only [wI, wU, wC]) <;> exact rfl); (focus ((try simp only [push_cast, seval, getF hF, getF0 hF, get7, lentR_len, getF0 hUm, List.getElem?_cons_zero, hlv]) <;> exact sT))) | ((first | apply Run.nil | apply Wp.skip); dsimp only [sQ, tQ, bQ]) | (apply Wp.run; (dsimp only [List.map] <;> exact rfl); exact rfl) | (apply Wp.exit; dsimp only [sQ, tQ, bQ]; simp only [reduceIte]) | (apply Run.gtrue; (simp only [push_cast, seval, getF hF, getF0 hF, get7, lentR_len, getF0 hUm, List.getElem?_cons_zero, hlv] <;> (try simp (disch := omega) only [wI, wU, wC]) <;> exact rfl); (simp only [push_cast, seval, getF hF, getF0 hF, get7, lentR_len, getF0 hUm, List.getElem?_cons_zero, hlv] <;> (try simp (disch := omega) only [wI, wU, wC]) <;> exact rfl)) | (apply Run.gfalse (.bool false); (simp only [push_cast, seval, getF hF, getF0 hF, get7, lentR_len, getF0 hUm, List.getElem?_cons_zero, hlv] <;> (try simp (disch := omega) only [wI, wU, wC]) <;> exact rfl); dsimp only [S.put, optG]) | (apply Wp.condT; (simp only [push_cast, seval, getF hF, getF0 hF, get7, lentR_len, getF0 hUm, List.getElem?_cons_zero, hlv] <;> (try simp (disch := omega) only [wI, wU, wC]) <;> exact rfl)) | (apply Wp.condF; (simp only [push_cast, seval, getF hF, getF0 hF, get7, lentR_len, getF0 hUm, List.getElem?_cons_zero, hlv] <;> (try simp (disch := omega) only [wI, wU, wC]) <;> exact rfl)))
          (apply leaveAN; exact rfl; (simp only [push_cast, seval, getF hF, getF0 hF, get7, lentR_len, getF0 hUm, List.getElem?_cons_zero, hlv] <;> (try simp (disch := omega) only [wI, wU, wC]) <;> exact rfl); (focus (first | (simp only [push_cast, seval, getF hF, getF0 hF, get7, lentR_len, getF0 hUm, List.getElem?_cons_zero, hlv]; done) | trivial | (simp only [push_cast, seval, getF hF, getF0 hF, get7, lentR_len, getF0 hUm, List.getElem?_cons_zero, hlv]; trivial) | (simp; done))); (try simp only [push_cast, seval, getF hF, getF0 hF, get7, lentR_len, getF0 hUm, List.getElem?_cons_zero, hlv]))
          exact hQ hj2 (hend rfl)
end Go.Proofs.Try
set_option maxHeartbeats 8000000
namespace Go.Proofs.Try
open Go.Vg

/-! a store of one kind alone -/
end Go.Proofs.Try
set_option maxHeartbeats 8000000
namespace Go.Proofs.Try
open Go.Vg

/-! the document's list of all right plans -/
end Go.Proofs.Try
set_option maxHeartbeats 8000000
namespace Go.Proofs.Try
open Go.Vg

/-! the document's store of one kind -/
end Go.Proofs.Try
set_option maxHeartbeats 8000000
namespace Go.Proofs.Try
open Go.Vg

/-! how many items the document says are needed -/
end Go.Proofs.Try
set_option maxHeartbeats 8000000
namespace Go.Proofs.Try
open Go.Vg

/-! stores that the statements do not try -/
theorem any_yes {n i : Nat} {p : Nat → Bool} (h : i < n) (hp : p i = true) : (List.range n).any p = true := List.any_eq_true.2 ⟨i, List.mem_range.2 h, hp⟩
theorem any_no {n : Nat} {p : Nat → Bool} (h : ∀ i, i < n → p i = false) : (List.range n).any p = false := List.any_eq_false.2 fun i hi => by rw [h i (List.mem_range.1 hi)]; simp
def lgK (ks : List St) (i : Nat) : Bool := decide (i < 20) && (decide (4 < (ks.getD i st0).items) && decide ((ks.getD i st0).items ≤ 8))
def lgS (ks : List St) (ls : List Ln) : Bool := (decide (6 < (ls.length : Int)) && decide ((ls.length : Int) ≤ 20)) || (List.range ks.length).any (lgK ks)
theorem large_pure (ks : List St) (ls : List Ln) (hk : ks.length ≤ 9223372036854775807) (hl : ls.length ≤ 9223372036854775807) : Pure Try.prog 15 [storA ks ls] (.bool (lgS ks ls)) := by
  unfold lgS
  by_cases h1 : 6 < (ls.length : Int) ∧ (ls.length : Int) ≤ 20
  · have e1 : decide (6 < (ls.length : Int)) = true := decide_eq_true h1.1
    have e2 : decide ((ls.length : Int) ≤ 20) = true := decide_eq_true h1.2
    (refine Spec.of_body Try.func15 rfl (by rw [Try.ntmps15]; simp) 0 (by simp) ?_; rw [Try.results15, Try.ntmps15]; simp only [entry, zipArgs, Nat.reduceAdd])
    repeat (first | apply Wp.seq | apply Wp.block | (apply Run.next; (simp only [push_cast, seval, e1, e2] <;> (try simp (disch := omega) only [wI, wU, wC]) <;> exact rfl); (focus ((try simp only [push_cast, seval, e1, e2]) <;> exact sT))) | ((first | apply Run.nil | apply Wp.skip); dsimp only [sQ, tQ, bQ]) | (apply Wp.run; (dsimp only [List.map] <;> exact rfl); exact rfl) | (apply Wp.exit; dsimp only [sQ, tQ, bQ]; simp only [reduceIte]) | (apply Run.gtrue; (simp only [push_cast, seval, e1, e2] <;> (try simp (disch := omega) only [wI, wU, wC]) <;> exact rfl); (simp only [push_cast, seval, e1, e2] <;> (try simp (disch := omega) only [wI, wU, wC]) <;> exact rfl)) | (apply Run.gfalse (.bool false); (simp only [push_cast, seval, e1, e2] <;> (try simp (disch := omega) only [wI, wU, wC]) <;> exact rfl); dsimp only [S.put, optG]) | (apply Wp.condT; (simp only [push_cast, seval, e1, e2] <;> (try simp (disch := omega) only [wI, wU, wC]) <;> exact rfl)) | (apply Wp.condF; (simp only [push_cast, seval, e1, e2] <;> (try simp (disch := omega) only [wI, wU, wC]) <;> exact rfl)))
    (apply Wp.ret; (try dsimp only [sQ, tQ, bQ]); apply leave0; exact rfl; (simp only [push_cast, seval, e1, e2] <;> (try simp (disch := omega) only [wI, wU, wC]) <;> exact rfl); all_goals (try simp only [push_cast, seval, e1, e2]); (try rfl))
  · have e1 : (decide (6 < (ls.length : Int)) && decide ((ls.length : Int) ≤ 20)) = false := by
      rw [← Bool.not_eq_true, Bool.and_eq_true, decide_eq_true_eq, decide_eq_true_eq]; exact h1
    rw [e1, Bool.false_or]
    have hyes := fun i (h : i < ks.length) => any_yes (p := lgK ks) h
    have hno := any_no (n := ks.length) (p := lgK ks)
    have hlk : ∀ i, lgK ks i = (decide (i < 20) && (decide (4 < (ks.getD i st0).items) && decide ((ks.getD i st0).items ≤ 8))) := fun _ => rfl
    generalize (List.range ks.length).any (lgK ks) = g at hyes hno
    generalize lgK ks = p at hlk hyes hno
    (refine Spec.of_body Try.func15 rfl (by rw [Try.ntmps15]; simp) 0 (by simp) ?_; rw [Try.results15, Try.ntmps15]; simp only [entry, zipArgs, Nat.reduceAdd])
    repeat (first | apply Wp.seq | apply Wp.block | (apply Run.next; (simp only [push_cast, seval, e1] <;> (try simp (disch := omega) only [wI, wU, wC]) <;> exact rfl); (focus ((try simp only [push_cast, seval, e1]) <;> exact sT))) | ((first | apply Run.nil | apply Wp.skip); dsimp only [sQ, tQ, bQ]) | (apply Wp.run; (dsimp only [List.map] <;> exact rfl); exact rfl) | (apply Wp.exit; dsimp only [sQ, tQ, bQ]; simp only [reduceIte]) | (apply Run.gtrue; (simp only [push_cast, seval, e1] <;> (try simp (disch := omega) only [wI, wU, wC]) <;> exact rfl); (simp only [push_cast, seval, e1] <;> (try simp (disch := omega) only [wI, wU, wC]) <;> exact rfl)) | (apply Run.gfalse (.bool false); (simp only [push_cast, seval, e1] <;> (try simp (disch := omega) only [wI, wU, wC]) <;> exact rfl); dsimp only [S.put, optG]) | (apply Wp.condT; (simp only [push_cast, seval, e1] <;> (try simp (disch := omega) only [wI, wU, wC]) <;> exact rfl)) | (apply Wp.condF; (simp only [push_cast, seval, e1] <;> (try simp (disch := omega) only [wI, wU, wC]) <;> exact rfl)))
    refine Wp.loop (fun (k : Nat) => { t := [(1, .optr 0 0 0 0), (3, .int k)], m := [⟨0, .row 2 [storA ks ls]⟩], n := 41 }) (fun k => k ≤ ks.length ∧ k ≤ 20 ∧ ∀ i, i < k → p i = false) (fun k => ks.length - k) 0 ?_ ?_ ?_
    · (refine Le.of ?_ ?_ rfl rfl <;> (try simp only [push_cast, seval, e1]) <;> (try (with_reducible rfl)))
    · simp
    · rintro k ⟨hk1, hk3, hk2⟩
      have hye := hyes k
      have hlk1 := hlk k
      repeat (first | apply Wp.seq | apply Wp.block | (apply Run.next; (simp only [push_cast, seval, e1] <;> (try simp (disch := omega) only [wI, wU, wC]) <;> exact rfl); (focus ((try simp only [push_cast, seval, e1]) <;> exact sT))) | ((first | apply Run.nil | apply Wp.skip); dsimp only [sQ, tQ, bQ]) | (apply Wp.run; (dsimp only [List.map] <;> exact rfl); exact rfl) | (apply Wp.exit; dsimp only [sQ, tQ, bQ]; simp only [reduceIte]))
      (apply Wp.cond; (simp only [push_cast, seval, e1] <;> (try simp (disch := omega) only [wI, wU, wC]) <;> exact rfl))
      · intro hc
        simp only [Bool.and_eq_true, decide_eq_true_eq, Int.ofNat_lt] at hc
        specialize hye hc.1
        rw [decide_eq_true (show k < 20 by omega), Bool.true_and] at hlk1
        generalize hy : ks.getD k st0 = y at hlk1
        repeat (first | apply Wp.seq | apply Wp.block | (apply Run.next; (simp only [push_cast, seval, e1, hy] <;> (try simp (disch := omega) only [wI, wU, wC]) <;> exact rfl); (focus ((try simp only [push_cast, seval, e1, hy]) <;> exact sT))) | ((first | apply Run.nil | apply Wp.skip); dsimp only [sQ, tQ, bQ]) | (apply Wp.run; (dsimp only [List.map] <;> exact rfl); exact rfl) | (apply Wp.exit; dsimp only [sQ, tQ, bQ]; simp only [reduceIte]))
        (apply Wp.cond; (simp only [push_cast, seval, e1, hy] <;> (try simp (disch := omega) only [wI, wU, wC]) <;> exact rfl))
        · intro h2
          have := hye (by rw [hlk1]; exact h2)
          subst this
          repeat (first | apply Wp.seq | apply Wp.block | (apply Run.next; (simp only [push_cast, seval, e1, hy] <;> (try simp (disch := omega) only [wI, wU, wC]) <;> exact rfl); (focus ((try simp only [push_cast, seval, e1, hy]) <;> exact sT))) | ((first | apply Run.nil | apply Wp.skip); dsimp only [sQ, tQ, bQ]) | (apply Wp.run; (dsimp only [List.map] <;> exact rfl); exact rfl) | (apply Wp.exit; dsimp only [sQ, tQ, bQ]; simp only [reduceIte]))
          (apply Wp.ret; (try dsimp only [sQ, tQ, bQ]); apply leave0; exact rfl; (simp only [push_cast, seval, e1, hy] <;> (try simp (disch := omega) only [wI, wU, wC]) <;> exact rfl); all_goals (try simp only [push_cast, seval, e1, hy]); (try rfl))
        · intro h2
          repeat (first | apply Wp.seq | apply Wp.block | (apply Run.next; (simp only [push_cast, seval, e1, hy] <;> (try simp (disch := omega) only [wI, wU, wC]) <;> exact rfl); (focus ((try simp only [push_cast, seval, e1, hy]) <;> exact sT))) | ((first | apply Run.nil | apply Wp.skip); dsimp only [sQ, tQ, bQ]) | (apply Wp.run; (dsimp only [List.map] <;> exact rfl); exact rfl) | (apply Wp.exit; dsimp only [sQ, tQ, bQ]; simp only [reduceIte]))
          refine ⟨k + 1, ?_, ⟨by omega, by omega, fun i hi => ?_⟩, by omega⟩
          · (refine Le.of ?_ ?_ rfl rfl <;> (try simp only [push_cast, seval, e1, hy]) <;> (try (with_reducible rfl)))
          · by_cases hik : i = k
            · rw [hik, hlk1]; exact h2
            · exact hk2 i (by omega)
      · intro hc
        have hall : ∀ i, i < ks.length → p i = false := fun i hi => by
          by_cases hik : i < k
          · exact hk2 i hik
          · simp only [Bool.and_eq_false_iff, decide_eq_false_iff_not] at hc
            rw [hlk i, decide_eq_false (show ¬ i < 20 by omega)]; rfl
        have := hno hall
        subst this
        repeat (first | apply Wp.seq | apply Wp.block | (apply Run.next; (simp only [push_cast, seval, e1] <;> (try simp (disch := omega) only [wI, wU, wC]) <;> exact rfl); (focus ((try simp only [push_cast, seval, e1]) <;> exact sT))) | ((first | apply Run.nil | apply Wp.skip); dsimp only [sQ, tQ, bQ]) | (apply Wp.run; (dsimp only [List.map] <;> exact rfl); exact rfl) | (apply Wp.exit; dsimp only [sQ, tQ, bQ]; simp only [reduceIte]))
        (apply Wp.ret; (try dsimp only [sQ, tQ, bQ]); apply leave0; exact rfl; (simp only [push_cast, seval, e1] <;> (try simp (disch := omega) only [wI, wU, wC]) <;> exact rfl); all_goals (try simp only [push_cast, seval, e1]); (try rfl))
end Go.Proofs.Try
namespace Go.Proofs.Try
open Go.Vg
theorem named : Named Try.prog 130 := namedB_ok (by kernel_rfl)
theorem works_run : xF Try.prog 130 (xC Try.prog 130 100000) 16 [] [] = some (.bool true, []) := by kernel_rfl
theorem works_pure : Pure Try.prog 16 [] (.bool true) := xF_spec named mixed works_run
end Go.Proofs.Try
set_option maxHeartbeats 8000000
namespace Go.Proofs.Try
open Go.Vg

/-! Peak, Need and Buy -/
end Go.Proofs.Try
set_option maxHeartbeats 8000000
namespace Go.Proofs.Try
open Go.Vg

/-! what Plan does for each kind -/
end Go.Proofs.Try
