/- A part of the proof of StoreEnough: contracts of functions, with plain laws that they need. -/
import Derived.Test.YtljchlkmalidnaaVgY15J
set_option linter.all false
set_option maxHeartbeats 8000000
namespace Go.Proofs.Try
open Go.Vg

/-! the plan, kind by kind -/
/-- the items of the kinds before k, and of the first q loans of the kind k -/
def plQ (ls : List Ln) (f : Nat → List Int) (k q : Nat) : List Int := (List.range ls.length).map fun i => if (ls.getD i ln0).kind < (k : Int) ∨ ((ls.getD i ln0).kind = (k : Int) ∧ plc ls (ls.getD i ln0).kind i < q) then (f (ls.getD i ln0).kind.toNat).getD (plc ls (ls.getD i ln0).kind i) 0 else 0
theorem plQ_len (ls : List Ln) (f : Nat → List Int) (k q : Nat) : (plQ ls f k q).length = ls.length := by simp [plQ]
theorem plQ_zero {ks : List St} {ls : List Ln} (hv : SV ks ls) (f : Nat → List Int) : plQ ls f 0 0 = List.replicate ls.length 0 := by
  apply List.ext_getElem (by simp [plQ])
  intro i h1 h2
  have hi : i < ls.length := by simpa [plQ] using h1
  have := (hv.ln i hi).1
  simp only [plQ, List.getElem_map, List.getElem_range, List.getElem_replicate]
  rw [if_neg (by omega)]
theorem plQ_next (ls : List Ln) (f : Nat → List Int) (k : Nat) : plQ ls f k (loanP ls (k : Int) ls.length).length = plQ ls f (k + 1) 0 := by
  apply List.ext_getElem (by simp [plQ])
  intro i h1 h2
  have hi : i < ls.length := by simpa [plQ] using h1
  simp only [plQ, List.getElem_map, List.getElem_range]
  by_cases hk : (ls.getD i ln0).kind = (k : Int)
  · have := (loanP_at (N := ls.length) hi hk).1
    rw [hk, if_pos (by right; exact ⟨rfl, this⟩), if_pos (by left; omega)]
  · by_cases hk2 : (ls.getD i ln0).kind < (k : Int)
    · rw [if_pos (.inl hk2), if_pos (by left; omega)]
    · rw [if_neg (by omega), if_neg (by omega)]
theorem plQ_set {ls : List Ln} (f : Nat → List Int) {k q : Nat} (hq : q < (loanP ls (k : Int) ls.length).length) : plQ ls f k (q + 1) = (plQ ls f k q).set ((loanP ls (k : Int) ls.length).getD q 0).toNat ((f k).getD q 0) := by
  obtain ⟨n, h1, h2, h3, h4⟩ := plc_at hq
  rw [h3, Int.toNat_natCast]
  apply List.ext_getElem (by simp [plQ])
  intro i h5 h6
  have hi : i < ls.length := by simpa [plQ] using h5
  rw [List.getElem_set]
  simp only [plQ, List.getElem_map, List.getElem_range]
  by_cases hin : n = i
  · subst hin
    rw [if_pos rfl, if_pos (by right; rw [h2]; exact ⟨rfl, by omega⟩), h2, h4, Int.toNat_natCast]
  · rw [if_neg hin]
    by_cases hk : (ls.getD i ln0).kind = (k : Int)
    · have hne : plc ls (k : Int) i ≠ q := fun he => by
        have h7 := (loanP_at (N := ls.length) hi hk).2
        rw [he, h3] at h7
        omega
      rw [hk]
      by_cases hp : plc ls (k : Int) i < q
      · rw [if_pos (by right; exact ⟨rfl, by omega⟩), if_pos (by right; exact ⟨rfl, hp⟩)]
      · rw [if_neg (by omega), if_neg (by omega)]
    · by_cases hk2 : (ls.getD i ln0).kind < (k : Int)
      · rw [if_pos (.inl hk2), if_pos (.inl hk2)]
      · rw [if_neg (by omega), if_neg (by omega)]
theorem plQ_end {ks : List St} {ls : List Ln} (hv : SV ks ls) (f : Nat → List Int) : plQ ls f ks.length 0 = glue ls f ls.length := by
  apply List.ext_getElem (by simp [plQ, glue])
  intro i h1 h2
  have hi : i < ls.length := by simpa [plQ] using h1
  have := (hv.ln i hi).1
  simp only [plQ, glue, List.getElem_map, List.getElem_range]
  rw [if_pos (by left; omega)]
/-- the memory in front of the benches -/
def eF (e0 e2 : Ent) (G : Mem) (r : List Int) : Mem := e0 :: ⟨0, .row 1 (r.map AV.int)⟩ :: e2 :: G
theorem eF_len (e0 e2 : Ent) (G : Mem) (r : List Int) : (eF e0 e2 G r).length = G.length + 3 := rfl
theorem eF_0 (e0 e2 : Ent) (G : Mem) (r : List Int) : (eF e0 e2 G r)[0]? = some e0 := rfl
theorem eF_1 (e0 e2 : Ent) (G : Mem) (r : List Int) : (eF e0 e2 G r)[1]? = some ⟨0, .row 1 (r.map AV.int)⟩ := rfl
theorem eF_2 (e0 e2 : Ent) (G : Mem) (r : List Int) : (eF e0 e2 G r)[2]? = some e2 := rfl
theorem eF_s2 (e0 e2 e : Ent) (G : Mem) (r : List Int) : (eF e0 e2 G r).set 2 e = eF e0 e G r := rfl
theorem eFa_0 (e0 e2 : Ent) (G B : Mem) (r : List Int) : (eF e0 e2 G r ++ B)[0]? = some e0 := rfl
theorem eFa_1 (e0 e2 : Ent) (G B : Mem) (r : List Int) : (eF e0 e2 G r ++ B)[1]? = some ⟨0, .row 1 (r.map AV.int)⟩ := rfl
theorem eFa_2 (e0 e2 : Ent) (G B : Mem) (r : List Int) : (eF e0 e2 G r ++ B)[2]? = some e2 := rfl
theorem eF_app (e0 e2 : Ent) (G B : Mem) (r : List Int) : eF e0 e2 G r ++ B = eF e0 e2 (G ++ B) r := rfl
def EachQ (ks : List St) (ls : List Ln) (x : AV) (m' : Mem) : Prop := m' = [] ∧ (((∃ k, k < ks.length ∧ srK ks ls k = none) ∧ x = .nil) ∨ ((∀ k, k < ks.length → (srK ks ls k).isSome = true) ∧ ((ls ≠ [] ∧ x = .ints (glue ls (fun k => (srK ks ls k).getD []) ls.length)) ∨ (ls = [] ∧ ∃ A, x = .non A))))
theorem eachP_spec {ks : List St} {ls : List Ln} (hv : SV ks ls) : Go.Vg.Spec Try.prog 55 [storA ks ls, .clo 56 [refS ks ls]] [] (EachQ ks ls) := by
  have hl20 := hv.l20
  have hk8 := hv.k8
  have hQn : ∀ {k}, k < ks.length → srK ks ls k = none → EachQ ks ls .nil [] := fun hk h => ⟨rfl, .inl ⟨⟨_, hk, h⟩, rfl⟩⟩
  by_cases hls : ls = []
  · subst hls
    have hQs : ∀ A, (∀ k, k < ks.length → (srK ks [] k).isSome = true) → EachQ ks [] (.non A) [] := fun A h => ⟨rfl, .inr ⟨h, .inr ⟨rfl, A, rfl⟩⟩⟩
    generalize EachQ ks [] = Q at hQn hQs
    (refine Spec.of_body Try.func55 rfl (by rw [Try.ntmps55]; simp) 0 (by simp) ?_; rw [Try.results55, Try.ntmps55]; simp only [entry, zipArgs, Nat.reduceAdd])
    repeat (first | apply Wp.seq | apply Wp.block)
    (apply Wp.run; (dsimp only [List.map] <;> exact rfl); exact rfl)
    (apply Run.next; (simp only [push_cast, seval] <;> (try simp (disch := omega) only [wI, wU, wC]) <;> exact rfl); (focus ((try simp only [push_cast, seval]) <;> exact sT)))
    repeat (first | apply Wp.seq | apply Wp.block | (apply Run.calm; exact rfl; (simp only [push_cast, seval] <;> (try simp (disch := omega) only [wI, wU, wC]) <;> exact rfl); (focus ((try simp only [push_cast, seval]) <;> exact sT))) | ((first | apply Run.nil | apply Wp.skip); dsimp only [sQ, tQ, bQ]) | (apply Wp.run; (dsimp only [List.map] <;> exact rfl); exact rfl) | (apply Wp.exit; dsimp only [sQ, tQ, bQ]; simp only [reduceIte]))
    refine Run.make0 (e := 3) (z := .int 0) (by simp only [push_cast, seval]) (by simp only [push_cast, seval]) (by simp only [push_cast, seval]) (by simp only [push_cast, seval]) (by simp only [push_cast, seval]) fun A => ?_
    have hQs := hQs A
    dsimp only [putA]
    repeat (first | apply Wp.seq | apply Wp.block | (apply Run.next; (simp only [push_cast, seval] <;> (try simp (disch := omega) only [wI, wU, wC]) <;> exact rfl); (focus ((try simp only [push_cast, seval]) <;> exact sT))) | ((first | apply Run.nil | apply Wp.skip); dsimp only [sQ, tQ, bQ]) | (apply Wp.run; (dsimp only [List.map] <;> exact rfl); exact rfl) | (apply Wp.exit; dsimp only [sQ, tQ, bQ]; simp only [reduceIte]))
    (refine Wp.vacs 2 ?_; (try simp only [List.replicate_succ, List.replicate_zero, List.cons_append, List.nil_append]))
    refine Wp.loop (fun (q : Nat × Nat × Kind × Mem) => { t := [(1, .clo 56 [refS ks []]), (2, .optr 0 0 0 0), (5, .non A), (16, .lst 2 (ks.map stA)), (17, .int ks.length), (18, .int q.1)], m := eF ⟨0, .row 2 [storA ks []]⟩ ⟨q.2.1, q.2.2.1⟩ q.2.2.2 [], n := 56 }) (fun q => q.1 ≤ ks.length ∧ ∀ k, k < q.1 → (srK ks [] k).isSome = true) (fun q => ks.length - q.1) (0, 0, .row 1 [], []) ?_ ?_ ?_
    · (refine Le.of ?_ ?_ rfl rfl <;> (try simp only [push_cast, seval]) <;> (try (with_reducible rfl)))
      all_goals rfl
    · simp
    · rintro ⟨k, v, kd, G⟩ ⟨hk1, hk2⟩
      simp only at hk1 hk2
      repeat (first | apply Wp.seq | apply Wp.block | (apply Run.calm; exact rfl; (simp only [push_cast, seval] <;> (try simp (disch := omega) only [wI, wU, wC]) <;> exact rfl); (focus ((try simp only [push_cast, seval]) <;> exact sT))) | ((first | apply Run.nil | apply Wp.skip); dsimp only [sQ, tQ, bQ]) | (apply Wp.run; (dsimp only [List.map] <;> exact rfl); exact rfl) | (apply Wp.exit; dsimp only [sQ, tQ, bQ]; simp only [reduceIte]))
      (apply Wp.cond; (simp only [push_cast, seval] <;> (try simp (disch := omega) only [wI, wU, wC]) <;> exact rfl))
      · intro hc
        simp only [decide_eq_true_eq, Int.ofNat_lt] at hc
        have hs := hv.st k hc
        have hnb := newBench_spec hv (k : Int) (ks.getD k st0).items (by omega) (by omega)
        rw [Int.toNat_natCast, show loanP ([] : List Ln) (k : Int) ([] : List Ln).length = [] from rfl] at hnb
        have hdo := fun (F : Mem) (N : Nat) (hF : F.length = N) (e4 : Ent) => planDo_spec hv hc hF ⟨0, .row 2 [storA ks []]⟩ e4
        rw [show loanP ([] : List Ln) (k : Int) ([] : List Ln).length = [] from rfl] at hdo
        generalize hy : ks.getD k st0 = y at hs hnb hdo
        repeat (first | apply Wp.seq | apply Wp.block | (apply Run.calm; exact rfl; (simp only [push_cast, seval, hy, eF_len, eF_0, eF_1, eF_2, eF_s2] <;> (try simp (disch := omega) only [wI, wU, wC]) <;> exact rfl); (focus ((try simp only [push_cast, seval, hy, eF_len, eF_0, eF_1, eF_2, eF_s2]) <;> exact sT))) | ((first | apply Run.nil | apply Wp.skip); dsimp only [sQ, tQ, bQ]) | (apply Wp.run; (dsimp only [List.map] <;> exact rfl); exact rfl) | (apply Wp.exit; dsimp only [sQ, tQ, bQ]; simp only [reduceIte]))
        (apply Run.alcAt 2; (simp only [push_cast, seval, hy, eF_len, eF_0, eF_1, eF_2, eF_s2] <;> (try simp (disch := omega) only [wI, wU, wC]) <;> exact rfl); (focus ((try simp only [push_cast, seval, hy, eF_len, eF_0, eF_1, eF_2, eF_s2]) <;> exact sT)); exact rfl; (try simp only [push_cast, seval, hy, eF_len, eF_0, eF_1, eF_2, eF_s2]))
        repeat (first | apply Wp.seq | apply Wp.block | (apply Run.calm; exact rfl; (simp only [push_cast, seval, hy, eF_len, eF_0, eF_1, eF_2, eF_s2] <;> (try simp (disch := omega) only [wI, wU, wC]) <;> exact rfl); (focus ((try simp only [push_cast, seval, hy, eF_len, eF_0, eF_1, eF_2, eF_s2]) <;> exact sT))) | ((first | apply Run.nil | apply Wp.skip); dsimp only [sQ, tQ, bQ]) | (apply Wp.run; (dsimp only [List.map] <;> exact rfl); exact rfl) | (apply Wp.exit; dsimp only [sQ, tQ, bQ]; simp only [reduceIte]))
        apply Run.fresh (he := Enters.of Try.func67 rfl rfl)
        focus (simp only [push_cast, seval, hy, eF_len, eF_0, eF_1, eF_2, eF_s2] <;> exact rfl)
        focus (simp only [push_cast, seval, hy, eF_len, eF_0, eF_1, eF_2, eF_s2] <;> (try simp (disch := omega) only [wI, wU, wC]) <;> exact rfl)
        exact hnb
        focus (focus (simp only [push_cast, seval, hy, eF_len, eF_0, eF_1, eF_2, eF_s2] <;> first | trivial | assumption | (refine ⟨?_, ?_⟩ <;> assumption) | (simp; done)))
        rintro x m' ⟨rfl, e4, rfl⟩
        have hsh := blk_shift (G.length + 3) (ks := ks) (ls := []) (e4 := e4) (life := y.life) (L := []) (vi := 0) (I := []) (W := List.replicate y.items.toNat 0) (T := T0 y.items.toNat)
        simp only [shE] at hsh
        simp only [eF_len]
        rw [hsh]
        generalize hE4 : (⟨e4.ver, e4.kind.shift (G.length + 3)⟩ : Ent) = e5
        dsimp only [AV.shift]
        have hFl : ∀ (e2 : Ent) (r : List Int), (eF ⟨0, .row 2 [storA ks []]⟩ e2 G r).length = G.length + 3 := fun _ r => rfl
        generalize hN : G.length + 3 = N at hFl
        have hg := fun (e2 : Ent) (r : List Int) (l : Mem) (i : Nat) => getF (l := l) (hFl e2 r) i
        have hg0 := fun (e2 : Ent) (r : List Int) (l : Mem) => getF0 (l := l) (hFl e2 r)
        dsimp only [S.put, optG]
        repeat (first | apply Wp.seq | apply Wp.block | (apply Run.next; (simp only [push_cast, seval, hy, eF_len, eF_0, eF_1, eF_2, eF_s2] <;> (try simp (disch := omega) only [wI, wU, wC]) <;> exact rfl); (focus ((try simp only [push_cast, seval, hy, eF_len, eF_0, eF_1, eF_2, eF_s2]) <;> exact sT))) | ((first | apply Run.nil | apply Wp.skip); dsimp only [sQ, tQ, bQ]) | (apply Wp.run; (dsimp only [List.map] <;> exact rfl); exact rfl) | (apply Wp.exit; dsimp only [sQ, tQ, bQ]; simp only [reduceIte]))
        apply Run.spec (he := Enters.of Try.func56 rfl rfl) (hc := hdo _ N (hFl _ []) e5)
        focus exact rfl
        focus (simp only [push_cast, seval, hy, eF_len, eF_0, eF_1, eF_2, eF_s2] <;> exact rfl)
        focus (simp only [push_cast, seval, hy, eF_len, eF_0, eF_1, eF_2, eF_s2] <;> (try simp (disch := omega) only [wI, wU, wC]) <;> exact rfl)
        rintro x' m' ⟨vi', T', ⟨J, h1, rfl, h2, rfl⟩ | ⟨h1, rfl, h2, rfl⟩⟩
        · generalize wO [] [] y.items.toNat J = W at *
          dsimp only [S.put, optG]
          repeat (first | apply Wp.seq | apply Wp.block | (apply Run.next; (simp only [push_cast, seval, hy, eFa_0, eFa_1, eFa_2, hg, hg0] <;> (try simp (disch := omega) only [wI, wU, wC]) <;> exact rfl); (focus ((try simp only [push_cast, seval, hy, eFa_0, eFa_1, eFa_2, hg, hg0]) <;> exact sT))) | ((first | apply Run.nil | apply Wp.skip); dsimp only [sQ, tQ, bQ]) | (apply Wp.run; (dsimp only [List.map] <;> exact rfl); exact rfl) | (apply Wp.exit; dsimp only [sQ, tQ, bQ]; simp only [reduceIte]) | (apply Run.gtrue; (simp only [push_cast, seval, hy, eFa_0, eFa_1, eFa_2, hg, hg0] <;> (try simp (disch := omega) only [wI, wU, wC]) <;> exact rfl); (simp only [push_cast, seval, hy, eFa_0, eFa_1, eFa_2, hg, hg0] <;> (try simp (disch := omega) only [wI, wU, wC]) <;> exact rfl)) | (apply Run.gfalse (.bool false); (simp only [push_cast, seval, hy, eFa_0, eFa_1, eFa_2, hg, hg0] <;> (try simp (disch := omega) only [wI, wU, wC]) <;> exact rfl); dsimp only [S.put, optG]) | (apply Wp.condT; (simp only [push_cast, seval, hy, eFa_0, eFa_1, eFa_2, hg, hg0] <;> (try simp (disch := omega) only [wI, wU, wC]) <;> exact rfl)) | (apply Wp.condF; (simp only [push_cast, seval, hy, eFa_0, eFa_1, eFa_2, hg, hg0] <;> (try simp (disch := omega) only [wI, wU, wC]) <;> exact rfl)))
          refine Wp.loop (fun (_ : Nat) => { t := [(1, .clo 56 [refS ks []]), (2, .optr 0 0 0 0), (5, .non A), (8, .optr (N + 3) 1 0 0), (16, .lst 2 (ks.map stA)), (17, .int ks.length), (18, .int k), (36, .osl (N + 5) 0 0 0), (37, .int 0), (38, .int 0)], m := eF ⟨0, .row 2 [storA ks []]⟩ ⟨v + 1, .row 2 [stA y]⟩ G [] ++ blk N ks [] ⟨0, .row 2 [storA ks []]⟩ e5 y.life [] vi' J W T' [], n := 56 }) (fun _ => True) (fun _ => 0) 0 ?_ ?_ ?_
          · (refine Le.of ?_ ?_ rfl rfl <;> (try simp only [push_cast, seval, hy, eFa_0, eFa_1, eFa_2, hg, hg0]) <;> (try (with_reducible rfl)))
          · trivial
          · intro q hq1
            repeat (first | apply Wp.seq | apply Wp.block | (apply Run.next; (simp only [push_cast, seval, hy, eFa_0, eFa_1, eFa_2, hg, hg0] <;> (try simp (disch := omega) only [wI, wU, wC]) <;> exact rfl); (focus ((try simp only [push_cast, seval, hy, eFa_0, eFa_1, eFa_2, hg, hg0]) <;> exact sT))) | ((first | apply Run.nil | apply Wp.skip); dsimp only [sQ, tQ, bQ]) | (apply Wp.run; (dsimp only [List.map] <;> exact rfl); exact rfl) | (apply Wp.exit; dsimp only [sQ, tQ, bQ]; simp only [reduceIte]))
            (apply Wp.cond; (simp only [push_cast, seval, hy, eFa_0, eFa_1, eFa_2, hg, hg0] <;> (try simp (disch := omega) only [wI, wU, wC]) <;> exact rfl))
            · intro hcq
              simp at hcq
            · intro hcq
              repeat (first | apply Wp.seq | apply Wp.block | (apply Run.next; (simp only [push_cast, seval, hy, eFa_0, eFa_1, eFa_2, hg, hg0] <;> (try simp (disch := omega) only [wI, wU, wC]) <;> exact rfl); (focus ((try simp only [push_cast, seval, hy, eFa_0, eFa_1, eFa_2, hg, hg0]) <;> exact sT))) | ((first | apply Run.nil | apply Wp.skip); dsimp only [sQ, tQ, bQ]) | (apply Wp.run; (dsimp only [List.map] <;> exact rfl); exact rfl) | (apply Wp.exit; dsimp only [sQ, tQ, bQ]; simp only [reduceIte]))
              refine ⟨(k + 1, v + 1, .row 2 [stA y], G ++ blk N ks [] ⟨0, .row 2 [storA ks []]⟩ e5 y.life [] vi' J W T' []), ?_, ⟨by simp only; omega, fun i hi => ?_⟩, by simp only; omega⟩
              · simp only
                rw [← eF_app]
                (refine Le.of ?_ ?_ rfl rfl <;> (try simp only [push_cast, seval, hy, eFa_0, eFa_1, eFa_2, hg, hg0]) <;> (try (with_reducible rfl)))
              · simp only at hi
                by_cases hik : i = k
                · rw [hik, show srK ks [] k = some J from h1]; rfl
                · exact hk2 i (by omega)
        · dsimp only [S.put, optG]
          (apply Run.next; (simp only [push_cast, seval, hy] <;> (try simp (disch := omega) only [wI, wU, wC]) <;> exact rfl); (focus ((try simp only [push_cast, seval, hy]) <;> exact sT)))
          (apply Run.nil; dsimp only [sQ, tQ, bQ])
          (apply Wp.condT; (simp only [push_cast, seval, hy] <;> (try simp (disch := omega) only [wI, wU, wC]) <;> exact rfl))
          repeat (first | apply Wp.seq | apply Wp.block)
          (apply Wp.run; (dsimp only [List.map] <;> exact rfl); exact rfl)
          (apply Run.nilc; (try dsimp only [putA]))
          (apply Run.nil; dsimp only [sQ, tQ, bQ])
          (apply Wp.ret; (try dsimp only [sQ, tQ, bQ]); apply leaveK; exact rfl; (simp only [push_cast, seval, hy] <;> (try simp (disch := omega) only [wI, wU, wC]) <;> exact rfl); (focus (first | (simp only [push_cast, seval, hy]; done) | trivial | (simp only [push_cast, seval, hy]; trivial) | (simp; done))); (focus (first | (simp only [push_cast, seval, hy]; done) | trivial | (simp only [push_cast, seval, hy]; trivial) | (simp; done))); (focus (first | (simp only [push_cast, seval, hy]; done) | trivial | (simp only [push_cast, seval, hy]; trivial) | (simp; done))); (try simp only [push_cast, seval, hy]))
          exact hQn hc h1
      · intro hc
        simp only [decide_eq_false_iff_not, Int.ofNat_lt] at hc
        obtain rfl : k = ks.length := by omega
        repeat (first | apply Wp.seq | apply Wp.block | (apply Run.next; (simp only [push_cast, seval] <;> (try simp (disch := omega) only [wI, wU, wC]) <;> exact rfl); (focus ((try simp only [push_cast, seval]) <;> exact sT))) | ((first | apply Run.nil | apply Wp.skip); dsimp only [sQ, tQ, bQ]) | (apply Wp.run; (dsimp only [List.map] <;> exact rfl); exact rfl) | (apply Wp.exit; dsimp only [sQ, tQ, bQ]; simp only [reduceIte]))
        (apply Wp.ret; (try dsimp only [sQ, tQ, bQ]); apply leaveK; exact rfl; (simp only [push_cast, seval] <;> (try simp (disch := omega) only [wI, wU, wC]) <;> exact rfl); (focus (first | (simp only [push_cast, seval]; done) | trivial | (simp only [push_cast, seval]; trivial) | (simp; done))); (focus (first | (simp only [push_cast, seval]; done) | trivial | (simp only [push_cast, seval]; trivial) | (simp; done))); (focus (first | (simp only [push_cast, seval]; done) | trivial | (simp only [push_cast, seval]; trivial) | (simp; done))); (try simp only [push_cast, seval]))
        exact hQs hk2
  · have hQs : (∀ k, k < ks.length → (srK ks ls k).isSome = true) → EachQ ks ls (.ints (glue ls (fun k => (srK ks ls k).getD []) ls.length)) [] := fun h => ⟨rfl, .inr ⟨h, .inl ⟨hls, rfl⟩⟩⟩
    have hpos : 0 < ls.length := List.length_pos_iff.2 hls
    generalize EachQ ks ls = Q at hQn hQs
    generalize hf : (fun k => (srK ks ls k).getD []) = f at hQs
    (refine Spec.of_body Try.func55 rfl (by rw [Try.ntmps55]; simp) 0 (by simp) ?_; rw [Try.results55, Try.ntmps55]; simp only [entry, zipArgs, Nat.reduceAdd])
    repeat (first | apply Wp.seq | apply Wp.block | (apply Run.next; (simp only [push_cast, seval] <;> (try simp (disch := omega) only [wI, wU, wC]) <;> exact rfl); (focus ((try simp only [push_cast, seval]) <;> exact sT))) | ((first | apply Run.nil | apply Wp.skip); dsimp only [sQ, tQ, bQ]) | (apply Wp.run; (dsimp only [List.map] <;> exact rfl); exact rfl) | (apply Wp.exit; dsimp only [sQ, tQ, bQ]; simp only [reduceIte]))
    (refine Wp.vacs 1 ?_; (try simp only [List.replicate_succ, List.replicate_zero, List.cons_append, List.nil_append]))
    refine Wp.loop (fun (q : Nat × Nat × Kind × Mem) => { t := [(1, .clo 56 [refS ks ls]), (2, .optr 0 0 0 0), (5, .osl 1 0 0 ls.length), (16, .lst 2 (ks.map stA)), (17, .int ks.length), (18, .int q.1)], m := eF ⟨0, .row 2 [storA ks ls]⟩ ⟨q.2.1, q.2.2.1⟩ q.2.2.2 (plQ ls f q.1 0), n := 56 }) (fun q => q.1 ≤ ks.length ∧ ∀ k, k < q.1 → (srK ks ls k).isSome = true) (fun q => ks.length - q.1) (0, 0, .row 1 [], []) ?_ ?_ ?_
    · rw [plQ_zero hv]
      (refine Le.of ?_ ?_ rfl rfl <;> (try simp only [push_cast, seval]) <;> (try (with_reducible rfl)))
      all_goals rfl
    · simp
    · rintro ⟨k, v, kd, G⟩ ⟨hk1, hk2⟩
      simp only at hk1 hk2
      have hql := plQ_len ls f k 0
      repeat (first | apply Wp.seq | apply Wp.block | (apply Run.calm; exact rfl; (simp only [push_cast, seval] <;> (try simp (disch := omega) only [wI, wU, wC]) <;> exact rfl); (focus ((try simp only [push_cast, seval]) <;> exact sT))) | ((first | apply Run.nil | apply Wp.skip); dsimp only [sQ, tQ, bQ]) | (apply Wp.run; (dsimp only [List.map] <;> exact rfl); exact rfl) | (apply Wp.exit; dsimp only [sQ, tQ, bQ]; simp only [reduceIte]))
      (apply Wp.cond; (simp only [push_cast, seval] <;> (try simp (disch := omega) only [wI, wU, wC]) <;> exact rfl))
      · intro hc
        simp only [decide_eq_true_eq, Int.ofNat_lt] at hc
        have hs := hv.st k hc
        have hnb := newBench_spec hv (k : Int) (ks.getD k st0).items (by omega) (by omega)
        rw [Int.toNat_natCast] at hnb
        have hdo := fun (F : Mem) (N : Nat) (hF : F.length = N) (e4 : Ent) => planDo_spec hv hc hF ⟨0, .row 2 [storA ks ls]⟩ e4
        generalize hy : ks.getD k st0 = y at hs hnb hdo
        repeat (first | apply Wp.seq | apply Wp.block | (apply Run.calm; exact rfl; (simp only [push_cast, seval, hy, eF_len, eF_0, eF_1, eF_2, eF_s2] <;> (try simp (disch := omega) only [wI, wU, wC]) <;> exact rfl); (focus ((try simp only [push_cast, seval, hy, eF_len, eF_0, eF_1, eF_2, eF_s2]) <;> exact sT))) | ((first | apply Run.nil | apply Wp.skip); dsimp only [sQ, tQ, bQ]) | (apply Wp.run; (dsimp only [List.map] <;> exact rfl); exact rfl) | (apply Wp.exit; dsimp only [sQ, tQ, bQ]; simp only [reduceIte]))
        (apply Run.alcAt 2; (simp only [push_cast, seval, hy, eF_len, eF_0, eF_1, eF_2, eF_s2] <;> (try simp (disch := omega) only [wI, wU, wC]) <;> exact rfl); (focus ((try simp only [push_cast, seval, hy, eF_len, eF_0, eF_1, eF_2, eF_s2]) <;> exact sT)); exact rfl; (try simp only [push_cast, seval, hy, eF_len, eF_0, eF_1, eF_2, eF_s2]))
        repeat (first | apply Wp.seq | apply Wp.block | (apply Run.calm; exact rfl; (simp only [push_cast, seval, hy, eF_len, eF_0, eF_1, eF_2, eF_s2] <;> (try simp (disch := omega) only [wI, wU, wC]) <;> exact rfl); (focus ((try simp only [push_cast, seval, hy, eF_len, eF_0, eF_1, eF_2, eF_s2]) <;> exact sT))) | ((first | apply Run.nil | apply Wp.skip); dsimp only [sQ, tQ, bQ]) | (apply Wp.run; (dsimp only [List.map] <;> exact rfl); exact rfl) | (apply Wp.exit; dsimp only [sQ, tQ, bQ]; simp only [reduceIte]))
        apply Run.fresh (he := Enters.of Try.func67 rfl rfl)
        focus (simp only [push_cast, seval, hy, eF_len, eF_0, eF_1, eF_2, eF_s2] <;> exact rfl)
        focus (simp only [push_cast, seval, hy, eF_len, eF_0, eF_1, eF_2, eF_s2] <;> (try simp (disch := omega) only [wI, wU, wC]) <;> exact rfl)
        exact hnb
        focus (focus (simp only [push_cast, seval, hy, eF_len, eF_0, eF_1, eF_2, eF_s2] <;> first | trivial | assumption | (refine ⟨?_, ?_⟩ <;> assumption) | (simp; done)))
        rintro x m' ⟨rfl, e4, rfl⟩
        have hsh := blk_shift (G.length + 3) (ks := ks) (ls := ls) (e4 := e4) (life := y.life) (L := loanP ls k ls.length) (vi := 0) (I := []) (W := List.replicate y.items.toNat 0) (T := T0 y.items.toNat)
        simp only [shE] at hsh
        simp only [eF_len]
        rw [hsh]
        generalize hE4 : (⟨e4.ver, e4.kind.shift (G.length + 3)⟩ : Ent) = e5
        dsimp only [AV.shift]
        have hFl : ∀ (e2 : Ent) (r : List Int), (eF ⟨0, .row 2 [storA ks ls]⟩ e2 G r).length = G.length + 3 := fun _ r => rfl
        generalize hN : G.length + 3 = N at hFl
        have hg := fun (e2 : Ent) (r : List Int) (l : Mem) (i : Nat) => getF (l := l) (hFl e2 r) i
        have hg0 := fun (e2 : Ent) (r : List Int) (l : Mem) => getF0 (l := l) (hFl e2 r)
        dsimp only [S.put, optG]
        repeat (first | apply Wp.seq | apply Wp.block | (apply Run.next; (simp only [push_cast, seval, hy, eF_len, eF_0, eF_1, eF_2, eF_s2] <;> (try simp (disch := omega) only [wI, wU, wC]) <;> exact rfl); (focus ((try simp only [push_cast, seval, hy, eF_len, eF_0, eF_1, eF_2, eF_s2]) <;> exact sT))) | ((first | apply Run.nil | apply Wp.skip); dsimp only [sQ, tQ, bQ]) | (apply Wp.run; (dsimp only [List.map] <;> exact rfl); exact rfl) | (apply Wp.exit; dsimp only [sQ, tQ, bQ]; simp only [reduceIte]))
        apply Run.spec (he := Enters.of Try.func56 rfl rfl) (hc := hdo _ N (hFl _ (plQ ls f k 0)) e5)
        focus exact rfl
        focus (simp only [push_cast, seval, hy, eF_len, eF_0, eF_1, eF_2, eF_s2] <;> exact rfl)
        focus (simp only [push_cast, seval, hy, eF_len, eF_0, eF_1, eF_2, eF_s2] <;> (try simp (disch := omega) only [wI, wU, wC]) <;> exact rfl)
        rintro x' m' ⟨vi', T', ⟨J, h1, rfl, h2, rfl⟩ | ⟨h1, rfl, h2, rfl⟩⟩
        · have hJ := (srch_some h1).1.1
          have hJ : J.length = (loanP ls (k : Int) ls.length).length := by simpa using hJ
          have hfk : f k = J := by rw [← hf]; simp only [h1]; rfl
          have hst := fun q (hq : q < (loanP ls (k : Int) ls.length).length) => plQ_set (ls := ls) f hq
          have hLi := loanP_in ls (k : Int)
          have hLl := loanP_len ls (k : Int) ls.length
          have hnx := plQ_next ls f k
          rw [hfk] at hst
          generalize wO ls (loanP ls (k : Int) ls.length) y.items.toNat J = W at *
          generalize loanP ls (k : Int) ls.length = L at *
          dsimp only [S.put, optG]
          repeat (first | apply Wp.seq | apply Wp.block | (apply Run.next; (simp only [push_cast, seval, hy, eFa_0, eFa_1, eFa_2, hg, hg0, plQ_len] <;> (try simp (disch := omega) only [wI, wU, wC]) <;> exact rfl); (focus ((try simp only [push_cast, seval, hy, eFa_0, eFa_1, eFa_2, hg, hg0, plQ_len]) <;> exact sT))) | ((first | apply Run.nil | apply Wp.skip); dsimp only [sQ, tQ, bQ]) | (apply Wp.run; (dsimp only [List.map] <;> exact rfl); exact rfl) | (apply Wp.exit; dsimp only [sQ, tQ, bQ]; simp only [reduceIte]) | (apply Run.gtrue; (simp only [push_cast, seval, hy, eFa_0, eFa_1, eFa_2, hg, hg0, plQ_len] <;> (try simp (disch := omega) only [wI, wU, wC]) <;> exact rfl); (simp only [push_cast, seval, hy, eFa_0, eFa_1, eFa_2, hg, hg0, plQ_len] <;> (try simp (disch := omega) only [wI, wU, wC]) <;> exact rfl)) | (apply Run.gfalse (.bool false); (simp only [push_cast, seval, hy, eFa_0, eFa_1, eFa_2, hg, hg0, plQ_len] <;> (try simp (disch := omega) only [wI, wU, wC]) <;> exact rfl); dsimp only [S.put, optG]) | (apply Wp.condT; (simp only [push_cast, seval, hy, eFa_0, eFa_1, eFa_2, hg, hg0, plQ_len] <;> (try simp (disch := omega) only [wI, wU, wC]) <;> exact rfl)) | (apply Wp.condF; (simp only [push_cast, seval, hy, eFa_0, eFa_1, eFa_2, hg, hg0, plQ_len] <;> (try simp (disch := omega) only [wI, wU, wC]) <;> exact rfl)))
          refine Wp.loop (fun (q : Nat) => { t := [(1, .clo 56 [refS ks ls]), (2, .optr 0 0 0 0), (5, .osl 1 0 0 ls.length), (8, .optr (N + 3) 1 0 0), (16, .lst 2 (ks.map stA)), (17, .int ks.length), (18, .int k), (36, .osl (N + 5) L.length 0 L.length), (37, .int L.length), (38, .int q)], m := eF ⟨0, .row 2 [storA ks ls]⟩ ⟨v + 1, .row 2 [stA y]⟩ G (plQ ls f k q) ++ blk N ks ls ⟨0, .row 2 [storA ks ls]⟩ e5 y.life L vi' J W T' [], n := 56 }) (fun q => q ≤ L.length) (fun q => L.length - q) 0 ?_ ?_ ?_
          · (refine Le.of ?_ ?_ rfl rfl <;> (try simp only [push_cast, seval, hy, eFa_0, eFa_1, eFa_2, hg, hg0, plQ_len]) <;> (try (with_reducible rfl)))
          · simp
          · intro q hq1
            repeat (first | apply Wp.seq | apply Wp.block | (apply Run.next; (simp only [push_cast, seval, hy, eFa_0, eFa_1, eFa_2, hg, hg0, plQ_len] <;> (try simp (disch := omega) only [wI, wU, wC]) <;> exact rfl); (focus ((try simp only [push_cast, seval, hy, eFa_0, eFa_1, eFa_2, hg, hg0, plQ_len]) <;> exact sT))) | ((first | apply Run.nil | apply Wp.skip); dsimp only [sQ, tQ, bQ]) | (apply Wp.run; (dsimp only [List.map] <;> exact rfl); exact rfl) | (apply Wp.exit; dsimp only [sQ, tQ, bQ]; simp only [reduceIte]))
            (apply Wp.cond; (simp only [push_cast, seval, hy, eFa_0, eFa_1, eFa_2, hg, hg0, plQ_len] <;> (try simp (disch := omega) only [wI, wU, wC]) <;> exact rfl))
            · intro hcq
              simp only [decide_eq_true_eq, Int.ofNat_lt] at hcq
              have hlo : 0 ≤ L.getD q 0 ∧ L.getD q 0 < (ls.length : Int) := hLi _ (by simp [hcq])
              have hst1 := hst q hcq
              generalize hlv : L.getD q 0 = loan at hlo hst1
              generalize hjv : J.getD q 0 = j at hst1
              repeat (first | apply Wp.seq | apply Wp.block | (apply Run.next; (simp only [push_cast, seval, hy, eFa_0, eFa_1, eFa_2, hg, hg0, plQ_len, hlv, hjv, hJ] <;> (try simp (disch := omega) only [wI, wU, wC]) <;> exact rfl); (focus ((try simp only [push_cast, seval, hy, eFa_0, eFa_1, eFa_2, hg, hg0, plQ_len, hlv, hjv, hJ]) <;> exact sT))) | ((first | apply Run.nil | apply Wp.skip); dsimp only [sQ, tQ, bQ]) | (apply Wp.run; (dsimp only [List.map] <;> exact rfl); exact rfl) | (apply Wp.exit; dsimp only [sQ, tQ, bQ]; simp only [reduceIte]))
              refine ⟨q + 1, ?_, by omega, by omega⟩
              rw [hst1]
              (refine Le.of ?_ ?_ rfl rfl <;> (try simp only [push_cast, seval, hy, eFa_0, eFa_1, eFa_2, hg, hg0, plQ_len, hlv, hjv, hJ]) <;> (try (with_reducible rfl)))
              all_goals rfl
            · intro hcq
              simp only [decide_eq_false_iff_not, Int.ofNat_lt] at hcq
              obtain rfl : q = L.length := by omega
              rw [hnx]
              repeat (first | apply Wp.seq | apply Wp.block | (apply Run.next; (simp only [push_cast, seval, hy, eFa_0, eFa_1, eFa_2, hg, hg0, plQ_len] <;> (try simp (disch := omega) only [wI, wU, wC]) <;> exact rfl); (focus ((try simp only [push_cast, seval, hy, eFa_0, eFa_1, eFa_2, hg, hg0, plQ_len]) <;> exact sT))) | ((first | apply Run.nil | apply Wp.skip); dsimp only [sQ, tQ, bQ]) | (apply Wp.run; (dsimp only [List.map] <;> exact rfl); exact rfl) | (apply Wp.exit; dsimp only [sQ, tQ, bQ]; simp only [reduceIte]))
              refine ⟨(k + 1, v + 1, .row 2 [stA y], G ++ blk N ks ls ⟨0, .row 2 [storA ks ls]⟩ e5 y.life L vi' J W T' []), ?_, ⟨by simp only; omega, fun i hi => ?_⟩, by simp only; omega⟩
              · simp only
                rw [← eF_app]
                (refine Le.of ?_ ?_ rfl rfl <;> (try simp only [push_cast, seval, hy, eFa_0, eFa_1, eFa_2, hg, hg0, plQ_len]) <;> (try (with_reducible rfl)))
              · simp only at hi
                by_cases hik : i = k
                · rw [hik, show srK ks ls k = some J from h1]; rfl
                · exact hk2 i (by omega)
        · dsimp only [S.put, optG]
          (apply Run.next; (simp only [push_cast, seval, hy] <;> (try simp (disch := omega) only [wI, wU, wC]) <;> exact rfl); (focus ((try simp only [push_cast, seval, hy]) <;> exact sT)))
          (apply Run.nil; dsimp only [sQ, tQ, bQ])
          (apply Wp.condT; (simp only [push_cast, seval, hy] <;> (try simp (disch := omega) only [wI, wU, wC]) <;> exact rfl))
          repeat (first | apply Wp.seq | apply Wp.block)
          (apply Wp.run; (dsimp only [List.map] <;> exact rfl); exact rfl)
          (apply Run.nilc; (try dsimp only [putA]))
          (apply Run.nil; dsimp only [sQ, tQ, bQ])
          (apply Wp.ret; (try dsimp only [sQ, tQ, bQ]); apply leaveK; exact rfl; (simp only [push_cast, seval, hy] <;> (try simp (disch := omega) only [wI, wU, wC]) <;> exact rfl); (focus (first | (simp only [push_cast, seval, hy]; done) | trivial | (simp only [push_cast, seval, hy]; trivial) | (simp; done))); (focus (first | (simp only [push_cast, seval, hy]; done) | trivial | (simp only [push_cast, seval, hy]; trivial) | (simp; done))); (focus (first | (simp only [push_cast, seval, hy]; done) | trivial | (simp only [push_cast, seval, hy]; trivial) | (simp; done))); (try simp only [push_cast, seval, hy]))
          exact hQn hc h1
      · intro hc
        simp only [decide_eq_false_iff_not, Int.ofNat_lt] at hc
        obtain rfl : k = ks.length := by omega
        have hend := plQ_end hv f
        rw [hend]
        have hgl := glue_len ls f ls.length
        repeat (first | apply Wp.seq | apply Wp.block | (apply Run.next; (simp only [push_cast, seval, eF_len, eF_0, eF_1, eF_2, hgl] <;> (try simp (disch := omega) only [wI, wU, wC]) <;> exact rfl); (focus ((try simp only [push_cast, seval, eF_len, eF_0, eF_1, eF_2, hgl]) <;> exact sT))) | ((first | apply Run.nil | apply Wp.skip); dsimp only [sQ, tQ, bQ]) | (apply Wp.run; (dsimp only [List.map] <;> exact rfl); exact rfl) | (apply Wp.exit; dsimp only [sQ, tQ, bQ]; simp only [reduceIte]))
        (apply Wp.freeze 4; (simp only [push_cast, seval, eF_len, eF_0, eF_1, eF_2, hgl] <;> (try simp (disch := omega) only [wI, wU, wC]) <;> exact rfl); (simp only [push_cast, seval, eF_len, eF_0, eF_1, eF_2, hgl] <;> (try simp (disch := omega) only [wI, wU, wC]) <;> exact rfl); (focus (try simp only [push_cast, seval, eF_len, eF_0, eF_1, eF_2, hgl]); (try (exact sT))); (focus (exact sT)))
        (apply Wp.ret; (try dsimp only [sQ, tQ, bQ]); apply leaveK; exact rfl; (simp only [push_cast, seval, eF_len, eF_0, eF_1, eF_2, hgl] <;> (try simp (disch := omega) only [wI, wU, wC]) <;> exact rfl); (focus (first | (simp only [push_cast, seval, eF_len, eF_0, eF_1, eF_2, hgl]; done) | trivial | (simp only [push_cast, seval, eF_len, eF_0, eF_1, eF_2, hgl]; trivial) | (simp; done))); (focus (first | (simp only [push_cast, seval, eF_len, eF_0, eF_1, eF_2, hgl]; done) | trivial | (simp only [push_cast, seval, eF_len, eF_0, eF_1, eF_2, hgl]; trivial) | (simp; done))); (focus (first | (simp only [push_cast, seval, eF_len, eF_0, eF_1, eF_2, hgl]; done) | trivial | (simp only [push_cast, seval, eF_len, eF_0, eF_1, eF_2, hgl]; trivial) | (simp; done))); (try simp only [push_cast, seval, eF_len, eF_0, eF_1, eF_2, hgl]))
        rw [List.take_of_length_le (by omega)]
        exact hQs hk2
end Go.Proofs.Try
set_option maxHeartbeats 8000000
namespace Go.Proofs.Try
open Go.Vg

/-! Plan -/
def exA (ks : List St) (ls : List Ln) : Bool := (List.range ks.length).all fun k => (srK ks ls k).isSome
def gluS (ks : List St) (ls : List Ln) : List Int := glue ls (fun k => (srK ks ls k).getD []) ls.length
def plnA (ks : List St) (ls : List Ln) : AV := if chkE ks ls = 0 ∧ exA ks ls = true then .ints (gluS ks ls) else .emp
def plnE (ks : List St) (ls : List Ln) : Int := if chkE ks ls = 0 then (if exA ks ls = true then 0 else 101) else chkE ks ls
theorem Plan_pure (ks : List St) (ls : List Ln) (hk : ks.length ≤ 9223372036854775807) (hl : ls.length ≤ 9223372036854775807) : Pure Try.prog 25 [storA ks ls] (.tup [plnA ks ls, .int (plnE ks ls)]) := by
  have hck := check_pure ks ls hk hl
  unfold plnA plnE
  by_cases h1 : chkE ks ls = 0
  · have hv := chkE_ok h1
    have hea := eachP_spec hv
    rw [if_pos h1]
    rw [h1] at hck ⊢
    have hno : ∀ k, k < ks.length → srK ks ls k = none → exA ks ls = false := fun k hk h => range_no hk (by rw [h]; rfl)
    have hall : (∀ k, k < ks.length → (srK ks ls k).isSome = true) → exA ks ls = true := fun h => range_all h
    generalize exA ks ls = ex at hno hall
    (refine Spec.of_body Try.func25 rfl (by rw [Try.ntmps25]; simp) 0 (by simp) ?_; rw [Try.results25, Try.ntmps25]; simp only [entry, zipArgs, Nat.reduceAdd])
    repeat (first | apply Wp.seq | apply Wp.block | (apply Run.next; (simp only [push_cast, seval] <;> (try simp (disch := omega) only [wI, wU, wC]) <;> exact rfl); (focus ((try simp only [push_cast, seval]) <;> exact sT))) | ((first | apply Run.nil | apply Wp.skip); dsimp only [sQ, tQ, bQ]) | (apply Wp.run; (dsimp only [List.map] <;> exact rfl); exact rfl) | (apply Wp.exit; dsimp only [sQ, tQ, bQ]; simp only [reduceIte]))
    (apply Run.pureP; (simp only [push_cast, seval] <;> (try simp (disch := omega) only [wI, wU, wC]) <;> exact rfl); (exact (Enters.of Try.func28 rfl rfl)); (exact hck); (focus (simp only [push_cast, seval] <;> first | trivial | assumption | (refine ⟨?_, ?_⟩ <;> assumption) | (simp; done))); (try dsimp only [putA, optG]))
    repeat (first | apply Wp.seq | apply Wp.block | (apply Run.calm; exact rfl; (simp only [push_cast, seval] <;> (try simp (disch := omega) only [wI, wU, wC]) <;> exact rfl); (focus ((try simp only [push_cast, seval]) <;> exact sT))) | ((first | apply Run.nil | apply Wp.skip); dsimp only [sQ, tQ, bQ]) | (apply Wp.run; (dsimp only [List.map] <;> exact rfl); exact rfl) | (apply Wp.exit; dsimp only [sQ, tQ, bQ]; simp only [reduceIte]))
    (apply Wp.condF; (simp only [push_cast, seval] <;> (try simp (disch := omega) only [wI, wU, wC]) <;> exact rfl))
    (apply Wp.skip; dsimp only [sQ, tQ, bQ])
    (apply Wp.freezeP 1; (simp only [push_cast, seval] <;> (try simp (disch := omega) only [wI, wU, wC]) <;> exact rfl); (simp only [push_cast, seval] <;> (try simp (disch := omega) only [wI, wU, wC]) <;> exact rfl); exact rfl; (focus (first | (simp [AV.cells]; done) | (simp only [push_cast, seval]; done))); simp only [AV.cells, List.set_cons_succ, List.set_cons_zero])
    repeat (first | apply Wp.seq | apply Wp.block | (apply Run.next; (simp only [push_cast, seval] <;> (try simp (disch := omega) only [wI, wU, wC]) <;> exact rfl); (focus ((try simp only [push_cast, seval]) <;> exact sT))) | ((first | apply Run.nil | apply Wp.skip); dsimp only [sQ, tQ, bQ]) | (apply Wp.run; (dsimp only [List.map] <;> exact rfl); exact rfl) | (apply Wp.exit; dsimp only [sQ, tQ, bQ]; simp only [reduceIte]))
    apply Run.fresh (he := Enters.of Try.func55 rfl rfl)
    focus (simp only [push_cast, seval] <;> exact rfl)
    focus (simp only [push_cast, seval] <;> (try simp (disch := omega) only [wI, wU, wC]) <;> exact rfl)
    exact hea
    focus (focus (simp only [push_cast, seval] <;> first | trivial | assumption | (refine ⟨?_, ?_⟩ <;> assumption) | (simp; done)))
    rintro x m' ⟨rfl, ⟨⟨k, hk1, hk2⟩, rfl⟩ | ⟨h2, ⟨h3, rfl⟩ | ⟨h3, A, rfl⟩⟩⟩
    · have := hno k hk1 hk2
      subst this
      dsimp only [AV.shift]
      dsimp only [S.put, optG]
      repeat (first | apply Wp.seq | apply Wp.block | (apply Run.next; (simp only [push_cast, seval] <;> (try simp (disch := omega) only [wI, wU, wC]) <;> exact rfl); (focus ((try simp only [push_cast, seval]) <;> exact sT))) | ((first | apply Run.nil | apply Wp.skip); dsimp only [sQ, tQ, bQ]) | (apply Wp.run; (dsimp only [List.map] <;> exact rfl); exact rfl) | (apply Wp.exit; dsimp only [sQ, tQ, bQ]; simp only [reduceIte]))
      refine Run.isNil (e := 3) (b := true) (by simp only [push_cast, seval]) (by simp only [push_cast, seval]; rfl) ?_
      dsimp only [putA]
      repeat (first | apply Wp.seq | apply Wp.block | (apply Run.next; (simp only [push_cast, seval] <;> (try simp (disch := omega) only [wI, wU, wC]) <;> exact rfl); (focus ((try simp only [push_cast, seval]) <;> exact sT))) | ((first | apply Run.nil | apply Wp.skip); dsimp only [sQ, tQ, bQ]) | (apply Wp.run; (dsimp only [List.map] <;> exact rfl); exact rfl) | (apply Wp.exit; dsimp only [sQ, tQ, bQ]; simp only [reduceIte]) | (apply Run.gtrue; (simp only [push_cast, seval] <;> (try simp (disch := omega) only [wI, wU, wC]) <;> exact rfl); (simp only [push_cast, seval] <;> (try simp (disch := omega) only [wI, wU, wC]) <;> exact rfl)) | (apply Run.gfalse (.bool false); (simp only [push_cast, seval] <;> (try simp (disch := omega) only [wI, wU, wC]) <;> exact rfl); dsimp only [S.put, optG]) | (apply Wp.condT; (simp only [push_cast, seval] <;> (try simp (disch := omega) only [wI, wU, wC]) <;> exact rfl)) | (apply Wp.condF; (simp only [push_cast, seval] <;> (try simp (disch := omega) only [wI, wU, wC]) <;> exact rfl)))
      (apply Wp.ret; (try dsimp only [sQ, tQ, bQ]); apply leave0; exact rfl; (simp only [push_cast, seval] <;> (try simp (disch := omega) only [wI, wU, wC]) <;> exact rfl); all_goals (try simp only [push_cast, seval]); (try rfl))
    · have := hall h2
      subst this
      have hgl : (gluS ks ls).length = ls.length := glue_len _ _ _
      have hpos : 0 < ls.length := List.length_pos_iff.2 h3
      rw [show glue ls (fun k => (srK ks ls k).getD []) ls.length = gluS ks ls from rfl]
      generalize gluS ks ls = gl at hgl
      obtain ⟨a, gl, rfl⟩ : ∃ a l, gl = a :: l := by
        cases gl with
        | nil => simp at hgl; omega
        | cons a l => exact ⟨a, l, rfl⟩
      have hsh : (AV.ints (a :: gl)).shift [(⟨1, .row 2 []⟩ : Ent)].length = .ints (a :: gl) := shift_ok _ _ (by simp only [push_cast])
      simp only [hsh, List.map_nil, List.append_nil]
      dsimp only [S.put, optG]
      repeat (first | apply Wp.seq | apply Wp.block | (apply Run.next; (simp only [push_cast, seval] <;> (try simp (disch := omega) only [wI, wU, wC]) <;> exact rfl); (focus ((try simp only [push_cast, seval]) <;> exact sT))) | ((first | apply Run.nil | apply Wp.skip); dsimp only [sQ, tQ, bQ]) | (apply Wp.run; (dsimp only [List.map] <;> exact rfl); exact rfl) | (apply Wp.exit; dsimp only [sQ, tQ, bQ]; simp only [reduceIte]))
      refine Run.isNil (e := 3) (b := false) (by simp only [push_cast, seval]) (by simp only [push_cast, seval]; rfl) ?_
      dsimp only [putA]
      repeat (first | apply Wp.seq | apply Wp.block | (apply Run.next; (simp only [push_cast, seval] <;> (try simp (disch := omega) only [wI, wU, wC]) <;> exact rfl); (focus ((try simp only [push_cast, seval]) <;> exact sT))) | ((first | apply Run.nil | apply Wp.skip); dsimp only [sQ, tQ, bQ]) | (apply Wp.run; (dsimp only [List.map] <;> exact rfl); exact rfl) | (apply Wp.exit; dsimp only [sQ, tQ, bQ]; simp only [reduceIte]) | (apply Run.gtrue; (simp only [push_cast, seval] <;> (try simp (disch := omega) only [wI, wU, wC]) <;> exact rfl); (simp only [push_cast, seval] <;> (try simp (disch := omega) only [wI, wU, wC]) <;> exact rfl)) | (apply Run.gfalse (.bool false); (simp only [push_cast, seval] <;> (try simp (disch := omega) only [wI, wU, wC]) <;> exact rfl); dsimp only [S.put, optG]) | (apply Wp.condT; (simp only [push_cast, seval] <;> (try simp (disch := omega) only [wI, wU, wC]) <;> exact rfl)) | (apply Wp.condF; (simp only [push_cast, seval] <;> (try simp (disch := omega) only [wI, wU, wC]) <;> exact rfl)))
      (apply Wp.ret; (try dsimp only [sQ, tQ, bQ]); apply leave0; exact rfl; (simp only [push_cast, seval] <;> (try simp (disch := omega) only [wI, wU, wC]) <;> exact rfl); all_goals (try simp only [push_cast, seval]); (try rfl))
    · have := hall h2
      subst this
      subst h3
      dsimp only [AV.shift]
      dsimp only [S.put, optG]
      repeat (first | apply Wp.seq | apply Wp.block | (apply Run.next; (simp only [push_cast, seval] <;> (try simp (disch := omega) only [wI, wU, wC]) <;> exact rfl); (focus ((try simp only [push_cast, seval]) <;> exact sT))) | ((first | apply Run.nil | apply Wp.skip); dsimp only [sQ, tQ, bQ]) | (apply Wp.run; (dsimp only [List.map] <;> exact rfl); exact rfl) | (apply Wp.exit; dsimp only [sQ, tQ, bQ]; simp only [reduceIte]))
      refine Run.isNil (e := 3) (b := false) (by simp only [push_cast, seval]) (by simp only [push_cast, seval]; rfl) ?_
      dsimp only [putA]
      repeat (first | apply Wp.seq | apply Wp.block | (apply Run.next; (simp only [push_cast, seval] <;> (try simp (disch := omega) only [wI, wU, wC]) <;> exact rfl); (focus ((try simp only [push_cast, seval]) <;> exact sT))) | ((first | apply Run.nil | apply Wp.skip); dsimp only [sQ, tQ, bQ]) | (apply Wp.run; (dsimp only [List.map] <;> exact rfl); exact rfl) | (apply Wp.exit; dsimp only [sQ, tQ, bQ]; simp only [reduceIte]) | (apply Run.gtrue; (simp only [push_cast, seval] <;> (try simp (disch := omega) only [wI, wU, wC]) <;> exact rfl); (simp only [push_cast, seval] <;> (try simp (disch := omega) only [wI, wU, wC]) <;> exact rfl)) | (apply Run.gfalse (.bool false); (simp only [push_cast, seval] <;> (try simp (disch := omega) only [wI, wU, wC]) <;> exact rfl); dsimp only [S.put, optG]) | (apply Wp.condT; (simp only [push_cast, seval] <;> (try simp (disch := omega) only [wI, wU, wC]) <;> exact rfl)) | (apply Wp.condF; (simp only [push_cast, seval] <;> (try simp (disch := omega) only [wI, wU, wC]) <;> exact rfl)))
      refine Wp.empt 2 1 (A := some A) (by (simp only [push_cast, seval] <;> (try simp (disch := omega) only [wI, wU, wC]) <;> exact rfl)) ?_
      (apply Wp.ret; (try dsimp only [sQ, tQ, bQ]); apply leave0; exact rfl; (simp only [push_cast, seval] <;> (try simp (disch := omega) only [wI, wU, wC]) <;> exact rfl); all_goals (try simp only [push_cast, seval]); (try rfl))
  · rw [if_neg (fun h => h1 h.1), if_neg h1]
    generalize chkE ks ls = e at hck h1
    have he : decide (e = 0) = false := decide_eq_false h1
    (refine Spec.of_body Try.func25 rfl (by rw [Try.ntmps25]; simp) 0 (by simp) ?_; rw [Try.results25, Try.ntmps25]; simp only [entry, zipArgs, Nat.reduceAdd])
    repeat (first | apply Wp.seq | apply Wp.block | (apply Run.next; (simp only [push_cast, seval, he] <;> (try simp (disch := omega) only [wI, wU, wC]) <;> exact rfl); (focus ((try simp only [push_cast, seval, he]) <;> exact sT))) | ((first | apply Run.nil | apply Wp.skip); dsimp only [sQ, tQ, bQ]) | (apply Wp.run; (dsimp only [List.map] <;> exact rfl); exact rfl) | (apply Wp.exit; dsimp only [sQ, tQ, bQ]; simp only [reduceIte]))
    (apply Run.pureP; (simp only [push_cast, seval, he] <;> (try simp (disch := omega) only [wI, wU, wC]) <;> exact rfl); (exact (Enters.of Try.func28 rfl rfl)); (exact hck); (focus (simp only [push_cast, seval, he] <;> first | trivial | assumption | (refine ⟨?_, ?_⟩ <;> assumption) | (simp; done))); (try dsimp only [putA, optG]))
    repeat (first | apply Wp.seq | apply Wp.block | (apply Run.next; (simp only [push_cast, seval, he] <;> (try simp (disch := omega) only [wI, wU, wC]) <;> exact rfl); (focus ((try simp only [push_cast, seval, he]) <;> exact sT))) | ((first | apply Run.nil | apply Wp.skip); dsimp only [sQ, tQ, bQ]) | (apply Wp.run; (dsimp only [List.map] <;> exact rfl); exact rfl) | (apply Wp.exit; dsimp only [sQ, tQ, bQ]; simp only [reduceIte]) | (apply Run.gtrue; (simp only [push_cast, seval, he] <;> (try simp (disch := omega) only [wI, wU, wC]) <;> exact rfl); (simp only [push_cast, seval, he] <;> (try simp (disch := omega) only [wI, wU, wC]) <;> exact rfl)) | (apply Run.gfalse (.bool false); (simp only [push_cast, seval, he] <;> (try simp (disch := omega) only [wI, wU, wC]) <;> exact rfl); dsimp only [S.put, optG]) | (apply Wp.condT; (simp only [push_cast, seval, he] <;> (try simp (disch := omega) only [wI, wU, wC]) <;> exact rfl)) | (apply Wp.condF; (simp only [push_cast, seval, he] <;> (try simp (disch := omega) only [wI, wU, wC]) <;> exact rfl)))
    (apply Wp.ret; (try dsimp only [sQ, tQ, bQ]); apply leave0; exact rfl; (simp only [push_cast, seval, he] <;> (try simp (disch := omega) only [wI, wU, wC]) <;> exact rfl); all_goals (try simp only [push_cast, seval, he]); (try rfl))
end Go.Proofs.Try
set_option maxHeartbeats 8000000
namespace Go.Proofs.Try
open Go.Vg

/-! what a right plan uses up -/
structure RP (ks : List St) (ls : List Ln) (J : List Int) : Prop where
  len : J.length = ls.length
  rt : RtF (cS ks ls) (okS ks ls) 0 J
theorem RP.item {ks : List St} {ls : List Ln} {J : List Int} (h : RP ks ls J) {i : Nat} (hi : i < ls.length) : 0 ≤ J.getD i 0 ∧ J.getD i 0 < ((ks.getD (ls.getD i ln0).kind.toNat st0).items.toNat : Int) := by
  obtain ⟨j, h1, h2, _⟩ := h.rt i (by omega) (by rw [h.len]; exact hi)
  unfold cS at h1
  omega
/-- the uses of the loans of a kind -/
def usP (ls : List Ln) (k : Int) : Nat → Int
  | 0 => 0
  | i + 1 => if (ls.getD i ln0).kind = k then usP ls k i + (ls.getD i ln0).uses else usP ls k i
theorem usP_sum (ls : List Ln) (k : Nat) : ∀ i, i ≤ ls.length → usP ls (k : Int) i = sumN (uL ls (loanP ls (k : Int) ls.length)) (plc ls (k : Int) i)
  | 0, _ => rfl
  | i + 1, hi => by
    have ih := usP_sum ls k i (by omega)
    rw [plc_succ]
    simp only [usP]
    by_cases hk : (ls.getD i ln0).kind = (k : Int)
    · obtain ⟨h1, h2⟩ := loanP_at (N := ls.length) (by omega) hk
      rw [if_pos hk, if_pos hk]
      simp only [sumN]
      rw [ih]
      unfold uL; rw [h2, Int.toNat_natCast]
    · rw [if_neg hk, if_neg hk]; exact ih
end Go.Proofs.Try
set_option maxHeartbeats 8000000
namespace Go.Proofs.Try
open Go.Vg

/-! no item is used up more than it may be: the statement -/
theorem tmod_bd (a : Int) {n : Int} (h : 0 < n) : -n < a.tmod n ∧ a.tmod n < n ∧ (0 ≤ a → 0 ≤ a.tmod n) := by
  refine ⟨?_, Int.tmod_lt_of_pos a h, fun h0 => Int.tmod_nonneg n h0⟩
  rcases Int.le_total 0 a with h0 | h0
  · have := Int.tmod_nonneg n h0; omega
  · have h1 := Int.tmod_lt_of_pos (-a) h
    rw [Int.neg_tmod] at h1; omega
theorem rest_bd (a : Int) {n : Int} (h : 0 < n) : 0 ≤ (a.tmod n + n).tmod n ∧ (a.tmod n + n).tmod n < n := by
  have h1 := tmod_bd a h
  have h2 := tmod_bd (a.tmod n + n) h
  exact ⟨h2.2.2 (by omega), h2.2.1⟩
theorem usP_bd {ks : List St} {ls : List Ln} (hv : SV ks ls) (k : Int) : ∀ i, i ≤ ls.length → 0 ≤ usP ls k i ∧ usP ls k i ≤ 100 * (i : Int) ∧ usP ls k i ≤ usP ls k ls.length
  | i, hi => by
    have h0 : ∀ i, i ≤ ls.length → 0 ≤ usP ls k i ∧ usP ls k i ≤ 100 * (i : Int) := by
      intro i
      induction i with
      | zero => intro _; simp [usP]
      | succ i ih =>
        intro hi
        have := ih (by omega)
        have := (hv.ln i (by omega)).2.2
        simp only [usP]; split <;> omega
    have h1 : ∀ d, i + d ≤ ls.length → usP ls k i ≤ usP ls k (i + d) := by
      intro d
      induction d with
      | zero => intro _; exact Int.le_refl _
      | succ d ih =>
        intro hd
        have := ih (by omega)
        have := (hv.ln (i + d) (by omega)).2.2
        rw [← Nat.add_assoc]
        simp only [usP]; split <;> omega
    have h2 := h1 (ls.length - i) (by omega)
    rw [show i + (ls.length - i) = ls.length by omega] at h2
    exact ⟨(h0 i hi).1, (h0 i hi).2, h2⟩
end Go.Proofs.Try
set_option maxHeartbeats 8000000
namespace Go.Proofs.Try
open Go.Vg

/-! a store with so many items of a kind -/
def wiK (ks : List St) (k : Nat) (items : Int) : List St := ks.set k ⟨items, (ks.getD k st0).life⟩
theorem with_pure {ks : List St} {ls : List Ln} (k : Nat) (items : Int) (hk : k < ks.length) (h8 : ks.length ≤ 8) : Pure Try.prog 24 [storA ks ls, .int k, .int items] (storA (wiK ks k items) ls) := by
  unfold wiK
  generalize hy : ks.getD k st0 = y
  have hxd : ∀ z : AV, (List.map stA ks).getD k z = AV.agg [AV.int y.items, AV.int y.life] := by
    intro z
    rw [List.getD_eq_getElem?_getD, List.getElem?_map, ← hy, List.getD_eq_getElem?_getD, List.getElem?_eq_getElem hk]; rfl
  (refine Spec.of_body Try.func24 rfl (by rw [Try.ntmps24]; simp) 0 (by simp) ?_; rw [Try.results24, Try.ntmps24]; simp only [entry, zipArgs, Nat.reduceAdd])
  repeat (first | apply Wp.seq | apply Wp.block | (apply Run.next; (simp only [push_cast, seval, hy, hxd] <;> (try simp (disch := omega) only [wI, wU, wC]) <;> exact rfl); (focus ((try simp only [push_cast, seval, hy, hxd]) <;> exact sT))) | ((first | apply Run.nil | apply Wp.skip); dsimp only [sQ, tQ, bQ]) | (apply Wp.run; (dsimp only [List.map] <;> exact rfl); exact rfl) | (apply Wp.exit; dsimp only [sQ, tQ, bQ]; simp only [reduceIte]))
  (apply Wp.runVE 7 mixed; (dsimp only [List.map] <;> exact rfl); exact rfl; kernel_rfl; (dsimp only [List.take] <;> exact rfl); (dsimp only [List.drop] <;> exact rfl); kernel_rfl; ((try dsimp only); (repeat (first | (apply AbsV.alc; exact rfl; (simp only [push_cast, seval, hy, hxd] <;> (try simp (disch := omega) only [wI, wU, wC]) <;> exact rfl); (focus ((try simp only [push_cast, seval, hy, hxd]) <;> exact sT)); dsimp only [upd, alcV, List.length_cons, List.length_nil, Nat.reduceAdd]) | (apply AbsV.apn; exact rfl; (simp only [push_cast, seval, hy, hxd] <;> (try simp (disch := omega) only [wI, wU, wC]) <;> exact rfl); (focus ((try simp only [push_cast, seval, hy, hxd]) <;> exact sT)); dsimp only [upd, alcV, List.length_cons, List.length_nil, Nat.reduceAdd]) | (apply AbsV.cons; exact rfl; exact rfl; (simp only [push_cast, seval, hy, hxd] <;> (try simp (disch := omega) only [wI, wU, wC]) <;> exact rfl); (focus ((try simp only [push_cast, seval, hy, hxd]) <;> exact sT)); dsimp only [upd]))); exact AbsV.nil); exact rfl; ((try dsimp only [List.map, List.cons_append, List.nil_append]); (simp only [push_cast, seval, hy, hxd] <;> (try simp (disch := omega) only [wI, wU, wC]) <;> exact rfl)); (focus ((try simp only [push_cast, seval, hy, hxd]) <;> exact sT)); dsimp only [upd])
  repeat (first | apply Wp.seq | apply Wp.block)
  (apply Wp.run; (dsimp only [List.map] <;> exact rfl); exact rfl)
  iterate 7 (apply Run.next; (simp only [push_cast, seval, hy, hxd] <;> (try simp (disch := omega) only [wI, wU, wC]) <;> exact rfl); (focus ((try simp only [push_cast, seval, hy, hxd]) <;> exact sT)))
  (apply Run.nil; dsimp only [sQ, tQ, bQ])
  refine Wp.freezeRow 3 2 (vi := 1) (off := 0) (len := ks.length) (szi := 2) (li := (ks.set k ⟨items, y.life⟩).map stA) (le' := [.agg [.lst 2 ((ks.set k ⟨items, y.life⟩).map stA), .lst 5 (ls.map lnA)]]) (by decide) rfl (by rw [List.map_set]; rfl) (by simp) (by decide) ?_ ?_
  · exact ⟨.inr ⟨_, _, rfl, rfl, .inr ⟨rfl, by rw [List.drop_zero, List.take_of_length_le (by simp)]⟩, .inl rfl, trivial⟩, trivial⟩
  · simp only [List.set_cons_succ, List.set_cons_zero]
    repeat (first | apply Wp.seq | apply Wp.block | (apply Run.next; (simp only [push_cast, seval, hy, hxd] <;> (try simp (disch := omega) only [wI, wU, wC]) <;> exact rfl); (focus ((try simp only [push_cast, seval, hy, hxd]) <;> exact sT))) | ((first | apply Run.nil | apply Wp.skip); dsimp only [sQ, tQ, bQ]) | (apply Wp.run; (dsimp only [List.map] <;> exact rfl); exact rfl) | (apply Wp.exit; dsimp only [sQ, tQ, bQ]; simp only [reduceIte]))
    (apply Wp.ret; (try dsimp only [sQ, tQ, bQ]); apply leave0; exact rfl; (simp only [push_cast, seval, hy, hxd] <;> (try simp (disch := omega) only [wI, wU, wC]) <;> exact rfl); all_goals (try simp only [push_cast, seval, hy, hxd]); (try rfl))
end Go.Proofs.Try
set_option maxHeartbeats 8000000
namespace Go.Proofs.Try
open Go.Vg

/-! what is bought is enough -/
theorem ndS_at' {ex : Nat → Bool} : ∀ {d i : Nat}, 0 ≤ ndS ex d i → ∃ j : Nat, ndS ex d i = (j : Int) ∧ i ≤ j ∧ j < i + d ∧ ex j = true ∧ ∀ n, i ≤ n → n < j → ex n = false
  | 0, i, h => by simp [ndS] at h
  | d + 1, i, h => by
    simp only [ndS] at h ⊢
    by_cases he : ex i = true
    · rw [if_pos he]; exact ⟨i, rfl, Nat.le_refl _, by omega, he, fun n h1 h2 => by omega⟩
    · rw [if_neg he] at h ⊢
      obtain ⟨j, h1, h2, h3, h4, h5⟩ := ndS_at' h
      refine ⟨j, h1, by omega, by omega, h4, fun n h6 h7 => ?_⟩
      by_cases hni : n = i
      · rw [hni]; simpa using he
      · exact h5 n (by omega) h7
theorem nd_at {ks : List St} {ls : List Ln} {k : Nat} (h : 0 ≤ ndV ks ls (k : Int)) : ∃ j : Nat, ndV ks ls (k : Int) = (j : Int) ∧ j ≤ ls.length ∧ exB ls (ks.getD k st0).life (k : Int) j = true ∧ ∀ n, n < j → exB ls (ks.getD k st0).life (k : Int) n = false := by
  obtain ⟨j, h1, h2, h3, h4, h5⟩ := ndS_at' h
  exact ⟨j, h1, by omega, h4, fun n hn => h5 n (Nat.zero_le _) hn⟩
theorem buy_ok {ks : List St} {ls : List Ln} (h : buE ks ls = 0) : chkE ks ls = 0 ∧ (∀ k, k < ks.length → 0 ≤ ndV ks ls (k : Int)) ∧ buA ks ls = .ints (buL ks ls ks.length) := by
  unfold buE at h
  split at h
  · rename_i hc
    split at h
    · rename_i hb
      refine ⟨hc, fun k hk => ?_, by unfold buA; rw [if_pos ⟨hc, hb⟩]⟩
      have := List.all_eq_true.1 hb k (List.mem_range.2 hk)
      exact of_decide_eq_true this
    · simp at h
  · rename_i hc; exact absurd h hc
theorem buL_get {ks : List St} {ls : List Ln} {k n : Nat} (h : k < n) : (buL ks ls n).getD k 0 = max 0 (ndV ks ls (k : Int) - (ks.getD k st0).items) := by simp [buL, h]
/-- the kinds before m have what is bought -/
def riK (ks : List St) (b : List Int) (m : Nat) : List St := (List.range ks.length).map fun i => if i < m then ⟨(ks.getD i st0).items + b.getD i 0, (ks.getD i st0).life⟩ else ks.getD i st0
theorem riK_len (ks : List St) (b : List Int) (m : Nat) : (riK ks b m).length = ks.length := by simp [riK]
theorem riK_get {ks : List St} {b : List Int} {m i : Nat} (h : i < ks.length) : (riK ks b m).getD i st0 = if i < m then ⟨(ks.getD i st0).items + b.getD i 0, (ks.getD i st0).life⟩ else ks.getD i st0 := by
  unfold riK
  rw [List.getD_eq_getElem?_getD, List.getElem?_map, List.getElem?_range h]; rfl
theorem riK_life {ks : List St} {b : List Int} {m i : Nat} (h : i < ks.length) : ((riK ks b m).getD i st0).life = (ks.getD i st0).life := by rw [riK_get h]; split <;> rfl
theorem riK_zero (ks : List St) (b : List Int) : riK ks b 0 = ks := by
  apply List.ext_getElem (by simp [riK])
  intro i h1 h2
  simp [riK, h2]
theorem wiK_len (ks : List St) (k : Nat) (items : Int) : (wiK ks k items).length = ks.length := by simp [wiK]
theorem wiK_get {ks : List St} {k i : Nat} {items : Int} (h : i < ks.length) : (wiK ks k items).getD i st0 = if i = k then ⟨items, (ks.getD k st0).life⟩ else ks.getD i st0 := by
  unfold wiK
  rw [List.getD_eq_getElem?_getD]
  by_cases hik : i = k
  · subst hik; rw [if_pos rfl, List.getElem?_set_self h]; rfl
  · rw [if_neg hik, List.getElem?_set_ne (fun e => hik e.symm), ← List.getD_eq_getElem?_getD]
theorem getD_extS {l l' : List St} (hl : l.length = l'.length) (h : ∀ i, i < l.length → l.getD i st0 = l'.getD i st0) : l = l' := by
  apply List.ext_getElem hl
  intro i h1 h2
  have := h i h1
  simpa [List.getD_eq_getElem?_getD, h1, h2] using this
theorem riK_step {ks : List St} {b : List Int} {m : Nat} (h : m < ks.length) : wiK (riK ks b m) m ((ks.getD m st0).items + b.getD m 0) = riK ks b (m + 1) := by
  apply getD_extS (by rw [wiK_len, riK_len, riK_len])
  intro i hi
  rw [wiK_len, riK_len] at hi
  rw [wiK_get (by rw [riK_len]; exact hi), riK_get hi, riK_get hi, riK_get h]
  by_cases him : i = m
  · subst him; simp
  · rw [if_neg him]
    by_cases hi2 : i < m
    · rw [if_pos hi2, if_pos (by omega)]
    · rw [if_neg hi2, if_neg (by omega)]
theorem chk_kinds {ks ks' : List St} {ls : List Ln} (hc : chkE ks ls = 0) (hl : ks'.length = ks.length) (h : ∀ i, i < ks.length → (0 ≤ (ks'.getD i st0).items ∧ (ks'.getD i st0).items ≤ 8) ∧ 1 ≤ (ks'.getD i st0).life ∧ (ks'.getD i st0).life ≤ 100) : chkE ks' ls = 0 := by
  have hb : checkB ks ls = true := by rw [← chkE_ne, hc]; rfl
  have hb' : checkB ks' ls = true := by
    simp only [checkB, Bool.and_eq_true, decide_eq_true_eq, hl] at hb ⊢
    refine ⟨⟨hb.1.1, ?_⟩, hb.2⟩
    rw [List.all_eq_true]
    intro x hx
    obtain ⟨i, hi, rfl⟩ := List.getElem_of_mem hx
    have := h i (by omega)
    have e : ks'.getD i st0 = ks'[i] := by simp [hi]
    rw [e] at this
    unfold stB
    rw [Bool.and_eq_true, wi_iff, wi_iff]; exact this
  unfold chkE; rw [hb']; rfl
theorem srK_ex {ks : List St} {ls : List Ln} {k : Nat} : (srK ks ls k).isSome = exB ls (ks.getD k st0).life (k : Int) (ks.getD k st0).items.toNat := rfl
theorem rich_ok {ks : List St} {ls : List Ln} (hv : SV ks ls) (hn : ∀ k, k < ks.length → 0 ≤ ndV ks ls (k : Int)) (hb : ∀ k, k < ks.length → (ks.getD k st0).items + (buL ks ls ks.length).getD k 0 ≤ 8) (hc : chkE ks ls = 0) : chkE (riK ks (buL ks ls ks.length) ks.length) ls = 0 ∧ exA (riK ks (buL ks ls ks.length) ks.length) ls = true := by
  refine ⟨chk_kinds hc (riK_len _ _ _) fun i hi => ?_, range_all fun k hk => ?_⟩
  · have h1 := hb i hi
    have h2 := hv.st i hi
    rw [riK_get hi, if_pos hi]
    rw [buL_get hi] at h1 ⊢
    simp only; omega
  · rw [riK_len] at hk
    obtain ⟨j, h1, h2, h3, _⟩ := nd_at (hn k hk)
    rw [srK_ex, riK_get hk, if_pos hk]
    refine ex_mono ?_ h3
    rw [buL_get hk, h1]; simp only; omega
theorem poor_ok {ks : List St} {ls : List Ln} (hv : SV ks ls) (hn : ∀ k, k < ks.length → 0 ≤ ndV ks ls (k : Int)) (hb : ∀ k, k < ks.length → (ks.getD k st0).items + (buL ks ls ks.length).getD k 0 ≤ 8) (hc : chkE ks ls = 0) {k : Nat} (hk : k < ks.length) (h0 : ndV ks ls (k : Int) ≠ 0) : chkE (wiK (riK ks (buL ks ls ks.length) ks.length) k (ndV ks ls (k : Int) - 1)) ls = 0 ∧ exA (wiK (riK ks (buL ks ls ks.length) ks.length) k (ndV ks ls (k : Int) - 1)) ls = false := by
  obtain ⟨hr, _⟩ := rich_ok hv hn hb hc
  have hvr := chkE_ok hr
  obtain ⟨j, h1, h2, h3, h4⟩ := nd_at (hn k hk)
  have hbk := hb k hk
  have hvk := hv.st k hk
  rw [buL_get hk, h1] at hbk
  refine ⟨chk_kinds hr (wiK_len _ _ _) fun i hi => ?_, range_no (k := k) (by rw [wiK_len, riK_len]; exact hk) ?_⟩
  · rw [riK_len] at hi
    have := hvr.st i (by rw [riK_len]; exact hi)
    rw [wiK_get (by rw [riK_len]; exact hi)]
    split
    · rw [riK_life hk, h1]; simp only; omega
    · exact this
  · rw [srK_ex, wiK_get (by rw [riK_len]; exact hk), if_pos rfl]
    simp only
    rw [riK_life hk]
    exact h4 _ (by omega)
theorem need_uses {ks : List St} {ls : List Ln} (hv : SV ks ls) {k j : Nat} (hk : k < ks.length) (h : exB ls (ks.getD k st0).life (k : Int) j = true) : usP ls (k : Int) ls.length ≤ (j : Int) * (ks.getD k st0).life := by
  rw [usP_sum ls k ls.length (Nat.le_refl _)]
  exact ex_uses (by have := hv.st k hk; omega) h
end Go.Proofs.Try
