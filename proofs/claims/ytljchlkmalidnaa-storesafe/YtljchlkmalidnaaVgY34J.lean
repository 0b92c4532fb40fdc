/- A part of the proof of StoreSafe: contracts of functions, with plain laws that they need. -/
import Derived.Test.YtljchlkmalidnaaVgWd
import Derived.Test.YtljchlkmalidnaaVgVg
import Derived.Test.YtljchlkmalidnaaVgEa
import Derived.Test.YtljchlkmalidnaaVgRc
import Derived.Test.YtljchlkmalidnaaVgYHJ
set_option linter.all false
set_option maxHeartbeats 8000000
namespace Go.Proofs.Try
open Go.Vg

/-! the plan, kind by kind -/
/-- the items of the kinds before k, and of the first q loans of the kind k -/
def plQ (ls : List Ln) (f : Nat → List Int) (k q : Nat) : List Int := (List.range ls.length).map fun i => if (ls.getD i ln0).kind < (k : Int) ∨ ((ls.getD i ln0).kind = (k : Int) ∧ plc ls (ls.getD i ln0).kind i < q) then (f (ls.getD i ln0).kind.toNat).getD (plc ls (ls.getD i ln0).kind i) 0 else 0
theorem plQ_len (ls : List Ln) (f : Nat → List Int) (k q : Nat) : (plQ ls f k q).length = ls.length := by simp [plQ]
theorem plQ_zero {ks : List St} {ls : List Ln} (hv : SV ks ls) (f : Nat → List Int) : plQ ls f 0 0 = List.replicate ls.length 0 := by
  apply List.ext_getElem (by simp [plQ])
  intro i h1 h2
  have hi : i < ls.length := by simpa [plQ] using h1
  have := (hv.ln i hi).1
  simp only [plQ, List.getElem_map, List.getElem_range, List.getElem_replicate]
  rw [if_neg (by omega)]
theorem plQ_next (ls : List Ln) (f : Nat → List Int) (k : Nat) : plQ ls f k (loanP ls (k : Int) ls.length).length = plQ ls f (k + 1) 0 := by
  apply List.ext_getElem (by simp [plQ])
  intro i h1 h2
  have hi : i < ls.length := by simpa [plQ] using h1
  simp only [plQ, List.getElem_map, List.getElem_range]
  by_cases hk : (ls.getD i ln0).kind = (k : Int)
  · have := (loanP_at (N := ls.length) hi hk).1
    rw [hk, if_pos (by right; exact ⟨rfl, this⟩), if_pos (by left; omega)]
  · by_cases hk2 : (ls.getD i ln0).kind < (k : Int)
    · rw [if_pos (.inl hk2), if_pos (by left; omega)]
    · rw [if_neg (by omega), if_neg (by omega)]
theorem plQ_set {ls : List Ln} (f : Nat → List Int) {k q : Nat} (hq : q < (loanP ls (k : Int) ls.length).length) : plQ ls f k (q + 1) = (plQ ls f k q).set ((loanP ls (k : Int) ls.length).getD q 0).toNat ((f k).getD q 0) := by
  obtain ⟨n, h1, h2, h3, h4⟩ := plc_at hq
  rw [h3, Int.toNat_natCast]
  apply List.ext_getElem (by simp [plQ])
  intro i h5 h6
  have hi : i < ls.length := by simpa [plQ] using h5
  rw [List.getElem_set]
  simp only [plQ, List.getElem_map, List.getElem_range]
  by_cases hin : n = i
  · subst hin
    rw [if_pos rfl, if_pos (by right; rw [h2]; exact ⟨rfl, by omega⟩), h2, h4, Int.toNat_natCast]
  · rw [if_neg hin]
    by_cases hk : (ls.getD i ln0).kind = (k : Int)
    · have hne : plc ls (k : Int) i ≠ q := fun he => by
        have h7 := (loanP_at (N := ls.length) hi hk).2
        rw [he, h3] at h7
        omega
      rw [hk]
      by_cases hp : plc ls (k : Int) i < q
      · rw [if_pos (by right; exact ⟨rfl, by omega⟩), if_pos (by right; exact ⟨rfl, hp⟩)]
      · rw [if_neg (by omega), if_neg (by omega)]
    · by_cases hk2 : (ls.getD i ln0).kind < (k : Int)
      · rw [if_pos (.inl hk2), if_pos (.inl hk2)]
      · rw [if_neg (by omega), if_neg (by omega)]
theorem plQ_end {ks : List St} {ls : List Ln} (hv : SV ks ls) (f : Nat → List Int) : plQ ls f ks.length 0 = glue ls f ls.length := by
  apply List.ext_getElem (by simp [plQ, glue])
  intro i h1 h2
  have hi : i < ls.length := by simpa [plQ] using h1
  have := (hv.ln i hi).1
  simp only [plQ, glue, List.getElem_map, List.getElem_range]
  rw [if_pos (by left; omega)]
/-- the memory in front of the benches -/
def eF (e0 e2 : Ent) (G : Mem) (r : List Int) : Mem := e0 :: ⟨0, .row 1 (r.map AV.int)⟩ :: e2 :: G
theorem eF_len (e0 e2 : Ent) (G : Mem) (r : List Int) : (eF e0 e2 G r).length = G.length + 3 := rfl
theorem eF_0 (e0 e2 : Ent) (G : Mem) (r : List Int) : (eF e0 e2 G r)[0]? = some e0 := rfl
theorem eF_1 (e0 e2 : Ent) (G : Mem) (r : List Int) : (eF e0 e2 G r)[1]? = some ⟨0, .row 1 (r.map AV.int)⟩ := rfl
theorem eF_2 (e0 e2 : Ent) (G : Mem) (r : List Int) : (eF e0 e2 G r)[2]? = some e2 := rfl
theorem eF_s2 (e0 e2 e : Ent) (G : Mem) (r : List Int) : (eF e0 e2 G r).set 2 e = eF e0 e G r := rfl
theorem eFa_0 (e0 e2 : Ent) (G B : Mem) (r : List Int) : (eF e0 e2 G r ++ B)[0]? = some e0 := rfl
theorem eFa_1 (e0 e2 : Ent) (G B : Mem) (r : List Int) : (eF e0 e2 G r ++ B)[1]? = some ⟨0, .row 1 (r.map AV.int)⟩ := rfl
theorem eFa_2 (e0 e2 : Ent) (G B : Mem) (r : List Int) : (eF e0 e2 G r ++ B)[2]? = some e2 := rfl
theorem eF_app (e0 e2 : Ent) (G B : Mem) (r : List Int) : eF e0 e2 G r ++ B = eF e0 e2 (G ++ B) r := rfl
def EachQ (ks : List St) (ls : List Ln) (x : AV) (m' : Mem) : Prop := m' = [] ∧ (((∃ k, k < ks.length ∧ srK ks ls k = none) ∧ x = .nil) ∨ ((∀ k, k < ks.length → (srK ks ls k).isSome = true) ∧ ((ls ≠ [] ∧ x = .ints (glue ls (fun k => (srK ks ls k).getD []) ls.length)) ∨ (ls = [] ∧ ∃ A, x = .non A))))
theorem eachP_spec {ks : List St} {ls : List Ln} (hv : SV ks ls) : Go.Vg.Spec Try.prog 55 [storA ks ls, .clo 56 [refS ks ls]] [] (EachQ ks ls) := by
  have hl20 := hv.l20
  have hk8 := hv.k8
  have hQn : ∀ {k}, k < ks.length → srK ks ls k = none → EachQ ks ls .nil [] := fun hk h => ⟨rfl, .inl ⟨⟨_, hk, h⟩, rfl⟩⟩
  by_cases hls : ls = []
  · subst hls
    have hQs : ∀ A, (∀ k, k < ks.length → (srK ks [] k).isSome = true) → EachQ ks [] (.non A) [] := fun A h => ⟨rfl, .inr ⟨h, .inr ⟨rfl, A, rfl⟩⟩⟩
    generalize EachQ ks [] = Q at hQn hQs
    (refine Spec.bd 0 Try.func55 Try.results55 Try.ntmps55 ?_; simp only [entry, zipArgs, Nat.reduceAdd])
    repeat (first | apply Wp.seq | apply Wp.block)
    (refine w_beg ?_)
    (refine w_nr ?_)
    (refine w_gs ?_)
    refine Run.make0 (e := 3) (z := .int 0) (by simp only [push_cast, seval]) (by simp only [push_cast, seval]) (by simp only [push_cast, seval]) (by simp only [push_cast, seval]) (by simp only [push_cast, seval]) fun A => ?_
    have hQs := hQs A
    dsimp only [putA]
    (refine w_go ?_)
    (refine Wp.vacs 2 ?_; (try simp only [List.replicate_succ, List.replicate_zero, List.cons_append, List.nil_append]))
    refine Wp.loop (fun (q : Nat × Nat × Kind × Mem) => { t := [(1, .clo 56 [refS ks []]), (2, .optr 0 0 0 0), (5, .non A), (16, .lst 2 (ks.map stA)), (17, .int ks.length), (18, .int q.1)], m := eF ⟨0, .row 2 [storA ks []]⟩ ⟨q.2.1, q.2.2.1⟩ q.2.2.2 [], n := 56 }) (fun q => q.1 ≤ ks.length ∧ ∀ k, k < q.1 → (srK ks [] k).isSome = true) (fun q => ks.length - q.1) (0, 0, .row 1 [], []) ?_ ?_ ?_
    · (refine Le.of ?_ ?_ rfl rfl <;> (try simp only [push_cast, seval]) <;> (try (with_reducible rfl)))
      all_goals rfl
    · simp
    · rintro ⟨k, v, kd, G⟩ ⟨hk1, hk2⟩
      simp only at hk1 hk2
      (refine w_gs ?_)
      (apply Wp.cond; (exact w_ev))
      · intro hc
        simp only [decide_eq_true_eq, Int.ofNat_lt] at hc
        have hs := hv.st k hc
        have hnb := newBench_spec hv (k : Int) (ks.getD k st0).items (by omega) (by omega)
        rw [Int.toNat_natCast, show loanP ([] : List Ln) (k : Int) ([] : List Ln).length = [] from rfl] at hnb
        have hdo := fun (F : Mem) (N : Nat) (hF : F.length = N) (e4 : Ent) => planDo_spec hv hc hF ⟨0, .row 2 [storA ks []]⟩ e4
        rw [show loanP ([] : List Ln) (k : Int) ([] : List Ln).length = [] from rfl] at hdo
        generalize hy : ks.getD k st0 = y at hs hnb hdo
        (refine x_gs (zc @hy (zc @eF_len (zc @eF_0 (zc @eF_1 (zc @eF_2 @eF_s2))))) ?_)
        (apply Run.alcAt 2; (exact x_ev (zc @hy (zc @eF_len (zc @eF_0 (zc @eF_1 (zc @eF_2 @eF_s2)))))); ((try simp only [push_cast, seval, hy, eF_len, eF_0, eF_1, eF_2, eF_s2]) <;> exact sT); exact rfl; (try simp only [push_cast, seval, hy, eF_len, eF_0, eF_1, eF_2, eF_s2]))
        (refine x_gs (zc @hy (zc @eF_len (zc @eF_0 (zc @eF_1 (zc @eF_2 @eF_s2))))) ?_)
        apply Run.fresh (he := Enters.of Try.func67 rfl rfl)
        focus (simp only [push_cast, seval, hy, eF_len, eF_0, eF_1, eF_2, eF_s2] <;> exact rfl)
        focus (exact x_ev (zc @hy (zc @eF_len (zc @eF_0 (zc @eF_1 (zc @eF_2 @eF_s2))))))
        exact hnb
        focus (exact x_al (zc @hy (zc @eF_len (zc @eF_0 (zc @eF_1 (zc @eF_2 @eF_s2))))))
        rintro x m' ⟨rfl, e4, rfl⟩
        have hsh := blk_shift (G.length + 3) (ks := ks) (ls := []) (e4 := e4) (life := y.life) (L := []) (vi := 0) (I := []) (W := List.replicate y.items.toNat 0) (T := T0 y.items.toNat)
        simp only [shE] at hsh
        simp only [eF_len]
        rw [hsh]
        generalize hE4 : (⟨e4.ver, e4.kind.shift (G.length + 3)⟩ : Ent) = e5
        dsimp only [AV.shift]
        have hFl : ∀ (e2 : Ent) (r : List Int), (eF ⟨0, .row 2 [storA ks []]⟩ e2 G r).length = G.length + 3 := fun _ r => rfl
        generalize hN : G.length + 3 = N at hFl
        have hg := fun (e2 : Ent) (r : List Int) (l : Mem) (i : Nat) => getF (l := l) (hFl e2 r) i
        have hg0 := fun (e2 : Ent) (r : List Int) (l : Mem) => getF0 (l := l) (hFl e2 r)
        dsimp only [S.put, optG]
        (refine x_go (zc @hy (zc @eF_len (zc @eF_0 (zc @eF_1 (zc @eF_2 @eF_s2))))) ?_)
        apply Run.spec (he := Enters.of Try.func56 rfl rfl) (hc := hdo _ N (hFl _ []) e5)
        focus exact rfl
        focus (simp only [push_cast, seval, hy, eF_len, eF_0, eF_1, eF_2, eF_s2] <;> exact rfl)
        focus (exact x_ev (zc @hy (zc @eF_len (zc @eF_0 (zc @eF_1 (zc @eF_2 @eF_s2))))))
        rintro x' m' ⟨vi', T', ⟨J, h1, rfl, h2, rfl⟩ | ⟨h1, rfl, h2, rfl⟩⟩
        · generalize wO [] [] y.items.toNat J = W at *
          dsimp only [S.put, optG]
          (refine x_gg (zc @hy (zc @eFa_0 (zc @eFa_1 (zc @eFa_2 (zc @hg @hg0))))) ?_)
          refine Wp.loop (fun (_ : Nat) => { t := [(1, .clo 56 [refS ks []]), (2, .optr 0 0 0 0), (5, .non A), (8, .optr (N + 3) 1 0 0), (16, .lst 2 (ks.map stA)), (17, .int ks.length), (18, .int k), (36, .osl (N + 5) 0 0 0), (37, .int 0), (38, .int 0)], m := eF ⟨0, .row 2 [storA ks []]⟩ ⟨v + 1, .row 2 [stA y]⟩ G [] ++ blk N ks [] ⟨0, .row 2 [storA ks []]⟩ e5 y.life [] vi' J W T' [], n := 56 }) (fun _ => True) (fun _ => 0) 0 ?_ ?_ ?_
          · (refine Le.of ?_ ?_ rfl rfl <;> (try simp only [push_cast, seval, hy, eFa_0, eFa_1, eFa_2, hg, hg0]) <;> (try (with_reducible rfl)))
          · trivial
          · intro q hq1
            (refine x_go (zc @hy (zc @eFa_0 (zc @eFa_1 (zc @eFa_2 (zc @hg @hg0))))) ?_)
            (apply Wp.cond; (exact x_ev (zc @hy (zc @eFa_0 (zc @eFa_1 (zc @eFa_2 (zc @hg @hg0)))))))
            · intro hcq
              simp at hcq
            · intro hcq
              (refine x_go (zc @hy (zc @eFa_0 (zc @eFa_1 (zc @eFa_2 (zc @hg @hg0))))) ?_)
              refine ⟨(k + 1, v + 1, .row 2 [stA y], G ++ blk N ks [] ⟨0, .row 2 [storA ks []]⟩ e5 y.life [] vi' J W T' []), ?_, ⟨by simp only; omega, fun i hi => ?_⟩, by simp only; omega⟩
              · simp only
                rw [← eF_app]
                (refine Le.of ?_ ?_ rfl rfl <;> (try simp only [push_cast, seval, hy, eFa_0, eFa_1, eFa_2, hg, hg0]) <;> (try (with_reducible rfl)))
              · simp only at hi
                by_cases hik : i = k
                · rw [hik, show srK ks [] k = some J from h1]; rfl
                · exact hk2 i (by omega)
        · dsimp only [S.put, optG]
          (refine x_nr @hy ?_)
          (apply Run.nil; dsimp only [sQ, tQ, bQ])
          (apply Wp.condT; (exact x_ev @hy))
          repeat (first | apply Wp.seq | apply Wp.block)
          (refine x_beg @hy ?_)
          (apply Run.nilc; (try dsimp only [putA]))
          (apply Run.nil; dsimp only [sQ, tQ, bQ])
          (first | exact x_retK @hy | refine x_retKZ @hy ?_)
          exact hQn hc h1
      · intro hc
        simp only [decide_eq_false_iff_not, Int.ofNat_lt] at hc
        obtain rfl : k = ks.length := by omega
        (refine w_go ?_)
        (first | exact w_retK | refine w_retKZ ?_)
        exact hQs hk2
  · have hQs : (∀ k, k < ks.length → (srK ks ls k).isSome = true) → EachQ ks ls (.ints (glue ls (fun k => (srK ks ls k).getD []) ls.length)) [] := fun h => ⟨rfl, .inr ⟨h, .inl ⟨hls, rfl⟩⟩⟩
    have hpos : 0 < ls.length := List.length_pos_iff.2 hls
    generalize EachQ ks ls = Q at hQn hQs
    generalize hf : (fun k => (srK ks ls k).getD []) = f at hQs
    (refine Spec.bd 0 Try.func55 Try.results55 Try.ntmps55 ?_; simp only [entry, zipArgs, Nat.reduceAdd])
    (refine w_go ?_)
    (refine Wp.vacs 1 ?_; (try simp only [List.replicate_succ, List.replicate_zero, List.cons_append, List.nil_append]))
    refine Wp.loop (fun (q : Nat × Nat × Kind × Mem) => { t := [(1, .clo 56 [refS ks ls]), (2, .optr 0 0 0 0), (5, .osl 1 0 0 ls.length), (16, .lst 2 (ks.map stA)), (17, .int ks.length), (18, .int q.1)], m := eF ⟨0, .row 2 [storA ks ls]⟩ ⟨q.2.1, q.2.2.1⟩ q.2.2.2 (plQ ls f q.1 0), n := 56 }) (fun q => q.1 ≤ ks.length ∧ ∀ k, k < q.1 → (srK ks ls k).isSome = true) (fun q => ks.length - q.1) (0, 0, .row 1 [], []) ?_ ?_ ?_
    · rw [plQ_zero hv]
      (refine Le.of ?_ ?_ rfl rfl <;> (try simp only [push_cast, seval]) <;> (try (with_reducible rfl)))
      all_goals rfl
    · simp
    · rintro ⟨k, v, kd, G⟩ ⟨hk1, hk2⟩
      simp only at hk1 hk2
      have hql := plQ_len ls f k 0
      (refine w_gs ?_)
      (apply Wp.cond; (exact w_ev))
      · intro hc
        simp only [decide_eq_true_eq, Int.ofNat_lt] at hc
        have hs := hv.st k hc
        have hnb := newBench_spec hv (k : Int) (ks.getD k st0).items (by omega) (by omega)
        rw [Int.toNat_natCast] at hnb
        have hdo := fun (F : Mem) (N : Nat) (hF : F.length = N) (e4 : Ent) => planDo_spec hv hc hF ⟨0, .row 2 [storA ks ls]⟩ e4
        generalize hy : ks.getD k st0 = y at hs hnb hdo
        (refine x_gs (zc @hy (zc @eF_len (zc @eF_0 (zc @eF_1 (zc @eF_2 @eF_s2))))) ?_)
        (apply Run.alcAt 2; (exact x_ev (zc @hy (zc @eF_len (zc @eF_0 (zc @eF_1 (zc @eF_2 @eF_s2)))))); ((try simp only [push_cast, seval, hy, eF_len, eF_0, eF_1, eF_2, eF_s2]) <;> exact sT); exact rfl; (try simp only [push_cast, seval, hy, eF_len, eF_0, eF_1, eF_2, eF_s2]))
        (refine x_gs (zc @hy (zc @eF_len (zc @eF_0 (zc @eF_1 (zc @eF_2 @eF_s2))))) ?_)
        apply Run.fresh (he := Enters.of Try.func67 rfl rfl)
        focus (simp only [push_cast, seval, hy, eF_len, eF_0, eF_1, eF_2, eF_s2] <;> exact rfl)
        focus (exact x_ev (zc @hy (zc @eF_len (zc @eF_0 (zc @eF_1 (zc @eF_2 @eF_s2))))))
        exact hnb
        focus (exact x_al (zc @hy (zc @eF_len (zc @eF_0 (zc @eF_1 (zc @eF_2 @eF_s2))))))
        rintro x m' ⟨rfl, e4, rfl⟩
        have hsh := blk_shift (G.length + 3) (ks := ks) (ls := ls) (e4 := e4) (life := y.life) (L := loanP ls k ls.length) (vi := 0) (I := []) (W := List.replicate y.items.toNat 0) (T := T0 y.items.toNat)
        simp only [shE] at hsh
        simp only [eF_len]
        rw [hsh]
        generalize hE4 : (⟨e4.ver, e4.kind.shift (G.length + 3)⟩ : Ent) = e5
        dsimp only [AV.shift]
        have hFl : ∀ (e2 : Ent) (r : List Int), (eF ⟨0, .row 2 [storA ks ls]⟩ e2 G r).length = G.length + 3 := fun _ r => rfl
        generalize hN : G.length + 3 = N at hFl
        have hg := fun (e2 : Ent) (r : List Int) (l : Mem) (i : Nat) => getF (l := l) (hFl e2 r) i
        have hg0 := fun (e2 : Ent) (r : List Int) (l : Mem) => getF0 (l := l) (hFl e2 r)
        dsimp only [S.put, optG]
        (refine x_go (zc @hy (zc @eF_len (zc @eF_0 (zc @eF_1 (zc @eF_2 @eF_s2))))) ?_)
        apply Run.spec (he := Enters.of Try.func56 rfl rfl) (hc := hdo _ N (hFl _ (plQ ls f k 0)) e5)
        focus exact rfl
        focus (simp only [push_cast, seval, hy, eF_len, eF_0, eF_1, eF_2, eF_s2] <;> exact rfl)
        focus (exact x_ev (zc @hy (zc @eF_len (zc @eF_0 (zc @eF_1 (zc @eF_2 @eF_s2))))))
        rintro x' m' ⟨vi', T', ⟨J, h1, rfl, h2, rfl⟩ | ⟨h1, rfl, h2, rfl⟩⟩
        · have hJ := (srch_some h1).1.1
          have hJ : J.length = (loanP ls (k : Int) ls.length).length := by simpa using hJ
          have hfk : f k = J := by rw [← hf]; simp only [h1]; rfl
          have hst := fun q (hq : q < (loanP ls (k : Int) ls.length).length) => plQ_set (ls := ls) f hq
          have hLi := loanP_in ls (k : Int)
          have hLl := loanP_len ls (k : Int) ls.length
          have hnx := plQ_next ls f k
          rw [hfk] at hst
          generalize wO ls (loanP ls (k : Int) ls.length) y.items.toNat J = W at *
          generalize loanP ls (k : Int) ls.length = L at *
          dsimp only [S.put, optG]
          (refine x_gg (zc @hy (zc @eFa_0 (zc @eFa_1 (zc @eFa_2 (zc @hg (zc @hg0 @plQ_len)))))) ?_)
          refine Wp.loop (fun (q : Nat) => { t := [(1, .clo 56 [refS ks ls]), (2, .optr 0 0 0 0), (5, .osl 1 0 0 ls.length), (8, .optr (N + 3) 1 0 0), (16, .lst 2 (ks.map stA)), (17, .int ks.length), (18, .int k), (36, .osl (N + 5) L.length 0 L.length), (37, .int L.length), (38, .int q)], m := eF ⟨0, .row 2 [storA ks ls]⟩ ⟨v + 1, .row 2 [stA y]⟩ G (plQ ls f k q) ++ blk N ks ls ⟨0, .row 2 [storA ks ls]⟩ e5 y.life L vi' J W T' [], n := 56 }) (fun q => q ≤ L.length) (fun q => L.length - q) 0 ?_ ?_ ?_
          · (refine Le.of ?_ ?_ rfl rfl <;> (try simp only [push_cast, seval, hy, eFa_0, eFa_1, eFa_2, hg, hg0, plQ_len]) <;> (try (with_reducible rfl)))
          · simp
          · intro q hq1
            (refine x_go (zc @hy (zc @eFa_0 (zc @eFa_1 (zc @eFa_2 (zc @hg (zc @hg0 @plQ_len)))))) ?_)
            (apply Wp.cond; (exact x_ev (zc @hy (zc @eFa_0 (zc @eFa_1 (zc @eFa_2 (zc @hg (zc @hg0 @plQ_len))))))))
            · intro hcq
              simp only [decide_eq_true_eq, Int.ofNat_lt] at hcq
              have hlo : 0 ≤ L.getD q 0 ∧ L.getD q 0 < (ls.length : Int) := hLi _ (by simp [hcq])
              have hst1 := hst q hcq
              generalize hlv : L.getD q 0 = loan at hlo hst1
              generalize hjv : J.getD q 0 = j at hst1
              (refine x_go (zc @hy (zc @eFa_0 (zc @eFa_1 (zc @eFa_2 (zc @hg (zc @hg0 (zc @plQ_len (zc @hlv (zc @hjv @hJ))))))))) ?_)
              refine ⟨q + 1, ?_, by omega, by omega⟩
              rw [hst1]
              (refine Le.of ?_ ?_ rfl rfl <;> (try simp only [push_cast, seval, hy, eFa_0, eFa_1, eFa_2, hg, hg0, plQ_len, hlv, hjv, hJ]) <;> (try (with_reducible rfl)))
              all_goals rfl
            · intro hcq
              simp only [decide_eq_false_iff_not, Int.ofNat_lt] at hcq
              obtain rfl : q = L.length := by omega
              rw [hnx]
              (refine x_go (zc @hy (zc @eFa_0 (zc @eFa_1 (zc @eFa_2 (zc @hg (zc @hg0 @plQ_len)))))) ?_)
              refine ⟨(k + 1, v + 1, .row 2 [stA y], G ++ blk N ks ls ⟨0, .row 2 [storA ks ls]⟩ e5 y.life L vi' J W T' []), ?_, ⟨by simp only; omega, fun i hi => ?_⟩, by simp only; omega⟩
              · simp only
                rw [← eF_app]
                (refine Le.of ?_ ?_ rfl rfl <;> (try simp only [push_cast, seval, hy, eFa_0, eFa_1, eFa_2, hg, hg0, plQ_len]) <;> (try (with_reducible rfl)))
              · simp only at hi
                by_cases hik : i = k
                · rw [hik, show srK ks ls k = some J from h1]; rfl
                · exact hk2 i (by omega)
        · dsimp only [S.put, optG]
          (refine x_nr @hy ?_)
          (apply Run.nil; dsimp only [sQ, tQ, bQ])
          (apply Wp.condT; (exact x_ev @hy))
          repeat (first | apply Wp.seq | apply Wp.block)
          (refine x_beg @hy ?_)
          (apply Run.nilc; (try dsimp only [putA]))
          (apply Run.nil; dsimp only [sQ, tQ, bQ])
          (first | exact x_retK @hy | refine x_retKZ @hy ?_)
          exact hQn hc h1
      · intro hc
        simp only [decide_eq_false_iff_not, Int.ofNat_lt] at hc
        obtain rfl : k = ks.length := by omega
        have hend := plQ_end hv f
        rw [hend]
        have hgl := glue_len ls f ls.length
        (refine x_go (zc @eF_len (zc @eF_0 (zc @eF_1 (zc @eF_2 @hgl)))) ?_)
        (apply Wp.freeze 4; (exact x_ev (zc @eF_len (zc @eF_0 (zc @eF_1 (zc @eF_2 @hgl))))); (exact x_ev (zc @eF_len (zc @eF_0 (zc @eF_1 (zc @eF_2 @hgl))))); (focus (try simp only [push_cast, seval, eF_len, eF_0, eF_1, eF_2, hgl]); (try (exact sT))); (focus (exact sT)))
        (first | exact x_retK (zc @eF_len (zc @eF_0 (zc @eF_1 (zc @eF_2 @hgl)))) | refine x_retKZ (zc @eF_len (zc @eF_0 (zc @eF_1 (zc @eF_2 @hgl)))) ?_)
        rw [List.take_of_length_le (by omega)]
        exact hQs hk2
end Go.Proofs.Try
set_option maxHeartbeats 8000000
namespace Go.Proofs.Try
open Go.Vg

/-! Plan -/
def exA (ks : List St) (ls : List Ln) : Bool := (List.range ks.length).all fun k => (srK ks ls k).isSome
def gluS (ks : List St) (ls : List Ln) : List Int := glue ls (fun k => (srK ks ls k).getD []) ls.length
def plnA (ks : List St) (ls : List Ln) : AV := if chkE ks ls = 0 ∧ exA ks ls = true then .ints (gluS ks ls) else .emp
def plnE (ks : List St) (ls : List Ln) : Int := if chkE ks ls = 0 then (if exA ks ls = true then 0 else 101) else chkE ks ls
theorem Plan_pure (ks : List St) (ls : List Ln) (hk : ks.length ≤ 9223372036854775807) (hl : ls.length ≤ 9223372036854775807) : Pure Try.prog 25 [storA ks ls] (.tup [plnA ks ls, .int (plnE ks ls)]) := by
  have hck := check_pure ks ls hk hl
  unfold plnA plnE
  by_cases h1 : chkE ks ls = 0
  · have hv := chkE_ok h1
    have hea := eachP_spec hv
    rw [if_pos h1]
    rw [h1] at hck ⊢
    have hno : ∀ k, k < ks.length → srK ks ls k = none → exA ks ls = false := fun k hk h => range_no hk (by rw [h]; rfl)
    have hall : (∀ k, k < ks.length → (srK ks ls k).isSome = true) → exA ks ls = true := fun h => range_all h
    generalize exA ks ls = ex at hno hall
    (refine Spec.bd 0 Try.func25 Try.results25 Try.ntmps25 ?_; simp only [entry, zipArgs, Nat.reduceAdd])
    (refine w_go ?_)
    (apply Run.pureP; (exact w_ev); (exact (Enters.of Try.func28 rfl rfl)); (exact hck); (exact w_al); (try dsimp only [putA, optG]))
    (refine w_gs ?_)
    (apply Wp.condF; (exact w_ev))
    (apply Wp.skip; dsimp only [sQ, tQ, bQ])
    (refine w_fzP (slq 1) ?_)
    (refine w_go ?_)
    apply Run.fresh (he := Enters.of Try.func55 rfl rfl)
    focus (simp only [push_cast, seval] <;> exact rfl)
    focus (exact w_ev)
    exact hea
    focus (exact w_al)
    rintro x m' ⟨rfl, ⟨⟨k, hk1, hk2⟩, rfl⟩ | ⟨h2, ⟨h3, rfl⟩ | ⟨h3, A, rfl⟩⟩⟩
    · have := hno k hk1 hk2
      subst this
      dsimp only [AV.shift]
      dsimp only [S.put, optG]
      (refine w_go ?_)
      refine Run.isNil (e := 3) (b := true) (by simp only [push_cast, seval]) (by simp only [push_cast, seval]; rfl) ?_
      dsimp only [putA]
      (refine w_gg ?_)
      (first | exact w_ret | refine w_retZ ?_)
    · have := hall h2
      subst this
      have hgl : (gluS ks ls).length = ls.length := glue_len _ _ _
      have hpos : 0 < ls.length := List.length_pos_iff.2 h3
      rw [show glue ls (fun k => (srK ks ls k).getD []) ls.length = gluS ks ls from rfl]
      generalize gluS ks ls = gl at hgl
      obtain ⟨a, gl, rfl⟩ : ∃ a l, gl = a :: l := by
        cases gl with
        | nil => simp at hgl; omega
        | cons a l => exact ⟨a, l, rfl⟩
      have hsh : (AV.ints (a :: gl)).shift [(⟨1, .row 2 []⟩ : Ent)].length = .ints (a :: gl) := shift_ok _ _ (by simp only [push_cast])
      simp only [hsh, List.map_nil, List.append_nil]
      dsimp only [S.put, optG]
      (refine w_go ?_)
      refine Run.isNil (e := 3) (b := false) (by simp only [push_cast, seval]) (by simp only [push_cast, seval]; rfl) ?_
      dsimp only [putA]
      (refine w_gg ?_)
      (first | exact w_ret | refine w_retZ ?_)
    · have := hall h2
      subst this
      subst h3
      dsimp only [AV.shift]
      dsimp only [S.put, optG]
      (refine w_go ?_)
      refine Run.isNil (e := 3) (b := false) (by simp only [push_cast, seval]) (by simp only [push_cast, seval]; rfl) ?_
      dsimp only [putA]
      (refine w_gg ?_)
      refine Wp.empt 2 1 (A := some A) (by (exact w_ev)) ?_
      (first | exact w_ret | refine w_retZ ?_)
  · rw [if_neg (fun h => h1 h.1), if_neg h1]
    generalize chkE ks ls = e at hck h1
    have he : decide (e = 0) = false := decide_eq_false h1
    (refine Spec.bd 0 Try.func25 Try.results25 Try.ntmps25 ?_; simp only [entry, zipArgs, Nat.reduceAdd])
    (refine x_go @he ?_)
    (apply Run.pureP; (exact x_ev @he); (exact (Enters.of Try.func28 rfl rfl)); (exact hck); (exact x_al @he); (try dsimp only [putA, optG]))
    (refine x_gg @he ?_)
    (first | exact x_ret @he | refine x_retZ @he ?_)
end Go.Proofs.Try
set_option maxHeartbeats 8000000
namespace Go.Proofs.Try
open Go.Vg

/-! what a right plan uses up -/
structure RP (ks : List St) (ls : List Ln) (J : List Int) : Prop where
  len : J.length = ls.length
  rt : RtF (cS ks ls) (okS ks ls) 0 J
theorem RP.item {ks : List St} {ls : List Ln} {J : List Int} (h : RP ks ls J) {i : Nat} (hi : i < ls.length) : 0 ≤ J.getD i 0 ∧ J.getD i 0 < ((ks.getD (ls.getD i ln0).kind.toNat st0).items.toNat : Int) := by
  obtain ⟨j, h1, h2, _⟩ := h.rt i (by omega) (by rw [h.len]; exact hi)
  unfold cS at h1
  omega
theorem RP.chk {ks : List St} {ls : List Ln} {J : List Int} (h : RP ks ls J) (hc : chkE ks ls = 0) : chk2E ks ls J = 0 := by
  have hv := chkE_ok hc
  have hb : checkB ks ls = true := by rw [← chkE_ne, hc]; rfl
  unfold chk2E
  rw [if_pos hb, if_pos]
  unfold planB
  rw [decide_eq_true h.len, Bool.true_and]
  refine range_all fun i hi => ?_
  rw [h.len] at hi
  have h1 := h.item hi
  have h2 := hv.st (ls.getD i ln0).kind.toNat (by have := (hv.ln i hi).1; omega)
  unfold plB
  rw [wi_iff]; omega
theorem srch_rp {ks : List St} {ls : List Ln} {J : List Int} (h : srch (cS ks ls) (okS ks ls) ls.length [] = some J) : RP ks ls J := by
  obtain ⟨⟨h1, _, h3⟩, _⟩ := srch_some h
  exact ⟨by simpa using h1, h3⟩
theorem wear_kind {ks : List St} {ls : List Ln} {J : List Int} (h : RP ks ls J) {k : Nat} {n j : Nat} (hn : j < n) : ∀ i, i ≤ ls.length → (wearP ls J (k : Int) n i).getD j 0 = sW (uL ls (loanP ls (k : Int) ls.length)) (pick (loanP ls (k : Int) ls.length) J) (j : Int) (plc ls (k : Int) i)
  | 0, _ => by simp [wearP, hn, plc, loanP, sW]
  | i + 1, hi => by
    have ih := wear_kind h (k := k) hn i (by omega)
    have hwl := wearP_len ls J (k : Int) n i
    rw [plc_succ]
    simp only [wearP, wearS]
    by_cases hk : (ls.getD i ln0).kind = (k : Int)
    · obtain ⟨h1, h2⟩ := loanP_at (N := ls.length) (by omega) hk
      have h3 := (h.item (i := i) (by omega)).1
      rw [if_pos hk, decide_eq_true hk, decide_eq_true h3, if_pos (by rfl)]
      simp only [sW]
      rw [pick_get h1, h2, Int.toNat_natCast]
      have hu : uL ls (loanP ls (k : Int) ls.length) (plc ls (k : Int) i) = (ls.getD i ln0).uses := by unfold uL; rw [h2, Int.toNat_natCast]
      by_cases hj : J.getD i 0 = (j : Int)
      · rw [if_pos hj, hj, Int.toNat_natCast, ← ih, hu]
        simp [hwl, hn]
      · rw [if_neg hj, ← ih]
        have : (J.getD i 0).toNat ≠ j := by omega
        generalize (J.getD i 0).toNat = a at this
        rw [List.getD_eq_getElem?_getD, List.getElem?_set_ne this, ← List.getD_eq_getElem?_getD]
    · rw [if_neg hk, if_neg (by rw [decide_eq_false hk]; simp)]; exact ih
theorem wear_life {ks : List St} {ls : List Ln} {J : List Int} (hv : SV ks ls) (h : RP ks ls J) {k : Nat} (hk : k < ks.length) {j : Nat} (hj : j < (ks.getD k st0).items.toNat) : 0 ≤ (wearP ls J (k : Int) (ks.getD k st0).items.toNat ls.length).getD j 0 ∧ (wearP ls J (k : Int) (ks.getD k st0).items.toNat ls.length).getD j 0 ≤ (ks.getD k st0).life := by
  rw [wear_kind h hj ls.length (Nat.le_refl _)]
  have h2 := (right_kinds hv h.len).1 h.rt k hk
  refine ⟨(sW_bd (uL_bd hv _) _ _ _).1, right_uses (by have := hv.st k hk; omega) h2 _ ?_ _⟩
  rw [pick_len]; exact Nat.le_refl _
end Go.Proofs.Try
set_option maxHeartbeats 8000000
set_option maxRecDepth 20000
namespace Go.Proofs.Try
open Go.Vg

/-! the document's Plan and Count -/
theorem pl_first {ks : List St} {ls : List Ln} (hv : SV ks ls) : (plL (cS ks ls) (okS ks ls) ls.length []).head? = if exA ks ls = true then some (gluS ks ls) else none := by
  rw [plL_head]
  by_cases h : exA ks ls = true
  · rw [if_pos h]
    refine glue_first hv fun k hk => ?_
    have := List.all_eq_true.1 h k (List.mem_range.2 hk)
    obtain ⟨x, hx⟩ := Option.isSome_iff_exists.1 this
    have hx' : srK ks ls k = some x := hx
    simp only [hx']
    exact hx
  · rw [if_neg h]
    cases hs : srch (cS ks ls) (okS ks ls) ls.length [] with
    | none => rfl
    | some J =>
      exfalso
      apply h
      have hr := srch_rp hs
      refine range_all fun k hk => ?_
      exact srch_isSome.2 ⟨pick (loanP ls (k : Int) ls.length) J, by simp [pick_len], by simp, (right_kinds hv hr.len).1 hr.rt k hk⟩
theorem gluS_rp {ks : List St} {ls : List Ln} (hv : SV ks ls) (h : exA ks ls = true) : RP ks ls (gluS ks ls) := by
  have := pl_first hv
  rw [if_pos h, plL_head] at this
  exact srch_rp this
def ctN (ks : List St) (ls : List Ln) : Int := if chkE ks ls = 0 then (pdK ks ls ks.length : Int) else 0
/-- what is small -/
theorem small_loans {ks : List St} {ls : List Ln} (hv : SV ks ls) (hg : lgS ks ls = false) : ls.length ≤ 6 ∧ ∀ k, k < ks.length → (ks.getD k st0).items ≤ 4 := by
  unfold lgS at hg
  rw [Bool.or_eq_false_iff, Bool.and_eq_false_iff, decide_eq_false_iff_not, decide_eq_false_iff_not, List.any_eq_false] at hg
  have h1 := hv.l20
  have h2 := hv.k8
  refine ⟨by omega, fun k hk => ?_⟩
  have h3 := hg.2 k (List.mem_range.2 hk)
  have h4 := hv.st k hk
  unfold lgK at h3
  simp only [Bool.and_eq_true, decide_eq_true_eq] at h3
  omega
theorem small_items {ks : List St} {ls : List Ln} (hv : SV ks ls) (hg : lgS ks ls = false) : ∀ l ∈ ls, itK ks (kdL l) ≤ 4 := fun l hl => by
  have h1 := (hv.mem hl).1
  have h2 := (small_loans hv hg).2 l.kind.toNat (by omega)
  unfold itK kdL
  omega
theorem small_pd {ks : List St} {ls : List Ln} (hv : SV ks ls) (hg : lgS ks ls = false) (K : Nat) : pdK ks ls K ≤ 4096 := by
  have h1 := pd_le (m := 4) (fun l hl => ⟨(hv.mem hl).1.1, (hv.mem hl).2.2.1⟩) (by omega) (small_items hv hg) K
  have h2 : 4 ^ ls.length ≤ 4 ^ 6 := Nat.pow_le_pow_right (by omega) (small_loans hv hg).1
  have h3 : (4 : Nat) ^ 6 = 4096 := by decide
  omega
theorem small_cn {ks : List St} {ls : List Ln} (hv : SV ks ls) (hg : lgS ks ls = false) (K : Nat) : cnA ks ls K ≤ 4096 := by
  have h1 := cnA_le (m := 4) (by omega) (small_items hv hg) K
  have h2 : 4 ^ ls.length ≤ 4 ^ 6 := Nat.pow_le_pow_right (by omega) (small_loans hv hg).1
  have h3 : (4 : Nat) ^ 6 = 4096 := by decide
  omega
end Go.Proofs.Try
set_option maxHeartbeats 8000000
set_option maxRecDepth 20000
namespace Go.Proofs.Try
open Go.Vg

/-! shelves as cells, and as keys of the maps -/
def flS (s : List (Int × Int)) : List Int := s.flatMap fun p => [p.1, p.2]
theorem flS_cons (p : Int × Int) (s : List (Int × Int)) : flS (p :: s) = p.1 :: p.2 :: flS s := by simp [flS]
theorem flS_len : ∀ s : List (Int × Int), (flS s).length = 2 * s.length
  | [] => rfl
  | p :: s => by rw [flS_cons, List.length_cons, List.length_cons, flS_len s, List.length_cons]; omega
theorem flS_get0 : ∀ {s : List (Int × Int)} {k : Nat}, (flS s).getD (k * 2) 0 = (s.getD k (0, 0)).1
  | [], k => by simp [flS]
  | p :: s, 0 => by rw [flS_cons]; rfl
  | p :: s, k + 1 => by
    rw [flS_cons, show (k + 1) * 2 = k * 2 + 1 + 1 by omega, List.getD_cons_succ, List.getD_cons_succ, List.getD_cons_succ]
    exact flS_get0
theorem flS_get1 : ∀ {s : List (Int × Int)} {k : Nat}, (flS s).getD (k * 2 + 1) 0 = (s.getD k (0, 0)).2
  | [], k => by simp [flS]
  | p :: s, 0 => by rw [flS_cons]; rfl
  | p :: s, k + 1 => by
    rw [flS_cons, show (k + 1) * 2 + 1 = k * 2 + 1 + 1 + 1 by omega, List.getD_cons_succ, List.getD_cons_succ, List.getD_cons_succ]
    exact flS_get1
theorem flS_set0 (z : Int) : ∀ {s : List (Int × Int)} {k : Nat}, k < s.length → (flS s).set (k * 2) z = flS (s.set k (z, (s.getD k (0, 0)).2))
  | [], k, h => by simp at h
  | p :: s, 0, _ => by simp [flS_cons]
  | p :: s, k + 1, h => by
    rw [flS_cons, show (k + 1) * 2 = k * 2 + 1 + 1 by omega, List.set_cons_succ, List.set_cons_succ, List.set_cons_succ, flS_cons, List.getD_cons_succ, flS_set0 z (by simpa using h)]
theorem flS_set (a b : Int) : ∀ {s : List (Int × Int)} {k : Nat}, k < s.length → (flS s).take (k * 2) ++ a :: b :: (flS s).drop (k * 2 + 2) = flS (s.set k (a, b))
  | [], k, h => by simp at h
  | p :: s, 0, _ => by simp [flS_cons]
  | p :: s, k + 1, h => by
    rw [flS_cons, show (k + 1) * 2 + 2 = k * 2 + 2 + 1 + 1 by omega, show (k + 1) * 2 = k * 2 + 1 + 1 by omega, List.take_succ_cons, List.take_succ_cons, List.drop_succ_cons, List.drop_succ_cons, List.set_cons_succ, flS_cons, ← flS_set a b (by simpa using h)]
    rfl
theorem set_mid (C : List Int) (k : Nat) (z : Int) (h : k < C.length) : C.take k ++ [z] ++ C.drop (k + 1) = C.set k z := by
  rw [List.set_eq_take_append_cons_drop, if_pos h]; simp
theorem flS_inj : ∀ {s t : List (Int × Int)}, flS s = flS t → s = t
  | [], [], _ => rfl
  | [], _ :: _, h => by rw [flS_cons] at h; cases h
  | _ :: _, [], h => by rw [flS_cons] at h; cases h
  | p :: s, q :: t, h => by
    rw [flS_cons, flS_cons] at h
    simp only [List.cons.injEq] at h
    rw [flS_inj h.2.2, Prod.ext h.1 h.2.1]
/-- the cells of the array, and its elements -/
theorem flS_agg (s : List (Int × Int)) : (s.map fun p => [AV.int p.1, AV.int p.2]).flatten = (flS s).map AV.int := by
  induction s with
  | nil => rfl
  | cons p s ih => rw [List.map_cons, List.flatten_cons, ih, flS_cons]; rfl
theorem pr_agg (s : List (Int × Int)) : (s.map fun p => [AV.int p.1, AV.int p.2]).map AV.agg = s.map prA := by simp [prA]
theorem c109 : Try.prog.cellsOf 109 = 16 := by kernel_rfl
theorem c107 : Try.prog.cellsOf 107 = 2 := by kernel_rfl
theorem c3 : Try.prog.cellsOf 3 = 1 := by kernel_rfl
theorem kt109 : Try.prog.keyType 109 = true := by kernel_rfl
theorem klit (d : Nat) (a : Int) (h : (Lit.int .i64 a).wf = true) : Try.prog.keyLits (d + 1) 3 [.int .i64 a] = some [.int .i64 a] := by
  simp [Program.keyLits, Try.underlying3, h]
theorem klit2 (d : Nat) (a b : Int) (h : (Lit.int .i64 a).wf = true) (h2 : (Lit.int .i64 b).wf = true) : Try.prog.keyLits (d + 2) 107 [.int .i64 a, .int .i64 b] = some [.int .i64 a, .int .i64 b] := by
  unfold Program.keyLits
  simp only [Try.underlying107, c107, c3]
  simp [klit, h, h2, c3]
abbrev kyV (b : List Int) : Value := .agg (b.map (Value.int .i64)).toArray
theorem klits (d : Nat) (s : List (Int × Int)) (hl : s.length = 8) (hw : ∀ p ∈ s, (Lit.int .i64 p.1).wf = true ∧ (Lit.int .i64 p.2).wf = true) :
    (Try.prog.keyLits (d + 3) 109 ((flS s).map (Value.int .i64))).isSome = true := by
  match s, hl with
  | [p0, p1, p2, p3, p4, p5, p6, p7], _ =>
    have w0 := hw p0 (by simp)
    have w1 := hw p1 (by simp)
    have w2 := hw p2 (by simp)
    have w3 := hw p3 (by simp)
    have w4 := hw p4 (by simp)
    have w5 := hw p5 (by simp)
    have w6 := hw p6 (by simp)
    have w7 := hw p7 (by simp)
    unfold Program.keyLits
    simp only [Try.underlying109, c109, c107, flS_cons, List.map_cons]
    simp [flS, klit2, c107, w0, w1, w2, w3, w4, w5, w6, w7, List.range, List.range.loop]
theorem goodS {s : List (Int × Int)} (hl : s.length = 8) (hw : ∀ p ∈ s, (Lit.int .i64 p.1).wf = true ∧ (Lit.int .i64 p.2).wf = true) : goodK Try.prog 109 (kyV (flS s)) = true := by
  have hts : Nat.ble 2 Try.prog.types.size = true := by kernel_rfl
  have hts' := Nat.le_of_ble_eq_true hts
  obtain ⟨d, hd⟩ : ∃ d, Try.prog.types.size + 1 = d + 3 := ⟨Try.prog.types.size - 2, by omega⟩
  have hk := klits d s hl hw
  have hf : (kyV (flS s)).formed Try.prog 109 = true := by
    simp [Value.formed, Try.underlying109, c109, flS_len, hl]
  unfold goodK keyOf
  simp only [Try.underlying109, kt109, hf, hd, Value.cells]
  simpa using hk
theorem keyedS : Maps.Keyed Try.prog 109 := kdB_ok (by kernel_rfl)
def ShL (s : List (Int × Int)) : Prop := s.length = 8 ∧ ∀ p ∈ s, ShB p
theorem goodSS {s : List (Int × Int)} (h : ShL s) : goodK Try.prog 109 (kyV (flS s)) = true := by
  refine goodS h.1 fun p hp => ?_
  obtain ⟨h1, h2⟩ := h.2 p hp
  constructor
  · simp [Lit.wf, IntKind.min, IntKind.max, IntKind.signed, IntKind.bits]; omega
  · simp [Lit.wf, IntKind.min, IntKind.max, IntKind.signed, IntKind.bits]; omega
theorem eqVs_ints : ∀ (a b : List Int), eqVs (a.map (Value.int .i64)) (b.map (Value.int .i64)) = decide (a = b)
  | [], [] => by simp [eqVs]
  | [], _ :: _ => by simp [eqVs]
  | _ :: _, [] => by simp [eqVs]
  | x :: a, y :: b => by
    simp only [List.map_cons, eqVs, eqV1, eqIn_eq]
    by_cases h : x = y
    · subst h; simp [eqVs_ints a b]
    · simp [h]
theorem eqKey_B (a b : List Int) : eqKey (kyV a) (kyV b) = decide (a = b) := by simp [eqKey, eqVs_ints]
theorem keyVs_ints (b : List Int) : keyVs (b.map AV.int) = some (b.map (Value.int .i64)) := by
  induction b with
  | nil => rfl
  | cons a b ih => simp only [List.map_cons, keyVs, ih]
theorem findL_upd (l : List (Value × AV)) (a b : List Int) (x : AV) : findL (updL l (kyV a) x) (kyV b) = if a = b then some x else findL l (kyV b) := by
  induction l with
  | nil => simp only [updL, findL, eqKey_B]; by_cases h : a = b <;> simp [h]
  | cons e l ih =>
    obtain ⟨k, y⟩ := e
    simp only [updL]
    cases hk : eqKey k (kyV a) with
    | true =>
      have := eqKey_ok hk
      subst this
      simp only [findL, eqKey_B]
      by_cases h : a = b <;> simp [h]
    | false =>
      simp only [findL]
      cases hk2 : eqKey k (kyV b) with
      | true =>
        have := eqKey_ok hk2
        subst this
        rw [eqKey_B] at hk
        simp only [decide_eq_false_iff_not] at hk
        rw [if_neg (fun h => hk h.symm)]
      | false => exact ih
theorem goodL_upd {s : List (Int × Int)} (hb : ShL s) (x : AV) : ∀ (l : List (Value × AV)), goodL Try.prog 109 l = true → goodL Try.prog 109 (updL l (kyV (flS s)) x) = true
  | [], _ => by simp only [updL, goodL, goodSS hb]
  | (k, y) :: l, h => by
    simp only [goodL] at h
    cases hg : goodK Try.prog 109 k with
    | false => rw [hg] at h; cases h
    | true =>
      rw [hg] at h
      simp only [updL]
      split
      · simp only [goodL, hg]; exact h
      · simp only [goodL, hg]; exact goodL_upd hb x l h
/-- what is known of the loans from one on -/
structure MoS (life : Int) (c : Nat) (xs : List Ln) (l : List (Value × AV)) : Prop where
  good : goodL Try.prog 109 l = true
  val : ∀ s v, s.length = c → findL l (kyV (flS (s ++ List.replicate (8 - c) (0, 0)))) = some v → v = .int (gS Ln.fr Ln.to Ln.uses life xs s : Nat)
theorem MoS.nil (life : Int) (c : Nat) (xs : List Ln) : MoS life c xs [] := ⟨rfl, fun s v _ h => by cases h⟩
theorem MoS.upd {life : Int} {c : Nat} {xs : List Ln} {l : List (Value × AV)} (h : MoS life c xs l) {s : List (Int × Int)} (hs : s.length = c) (hb : ShL (s ++ List.replicate (8 - c) (0, 0))) : MoS life c xs (updL l (kyV (flS (s ++ List.replicate (8 - c) (0, 0)))) (.int (gS Ln.fr Ln.to Ln.uses life xs s : Nat))) := by
  refine ⟨goodL_upd hb _ l h.good, fun t v ht hv => ?_⟩
  rw [findL_upd] at hv
  split at hv
  · rename_i e
    have := flS_inj e
    have e2 := (List.append_inj this (by rw [hs, ht])).1
    subst e2
    exact (Option.some.inj hv).symm
  · exact h.val t v ht hv
end Go.Proofs.Try
set_option maxHeartbeats 8000000
set_option maxRecDepth 20000
namespace Go.Proofs.Try
open Go.Vg

/-! counting, with what is known -/
def knL (N n : Nat) : List AV := (List.range n).map fun i => .omap (N + i) 1
theorem knL_get {N n i : Nat} (h : i < n) (d : AV) : (knL N n).getD i d = .omap (N + i) 1 := by simp [knL, h]
def mpsE (n : Nat) (mp : Nat → List (Value × AV)) : Mem := (List.range n).map fun i => (⟨1, .mp (mp i)⟩ : Ent)
def Mm (F : Mem) (n : Nat) (mp : Nat → List (Value × AV)) (G : Mem) : Mem := F ++ (mpsE n mp ++ G)
def upM (mp : Nat → List (Value × AV)) (i : Nat) (L : List (Value × AV)) : Nat → List (Value × AV) := fun j => if j = i then L else mp j
theorem upM_same (mp : Nat → List (Value × AV)) (i : Nat) (L : List (Value × AV)) : upM mp i L i = L := by simp [upM]
theorem upM_ne (mp : Nat → List (Value × AV)) {i j : Nat} (L : List (Value × AV)) (h : j ≠ i) : upM mp i L j = mp j := by simp [upM, h]
theorem mpsE_len (n : Nat) (mp : Nat → List (Value × AV)) : (mpsE n mp).length = n := by simp [mpsE]
theorem mpsE_set (n : Nat) (mp : Nat → List (Value × AV)) {i : Nat} (L : List (Value × AV)) (h : i < n) : (mpsE n mp).set i ⟨1, .mp L⟩ = mpsE n (upM mp i L) := by
  apply List.ext_getElem
  · simp [mpsE]
  · intro j h1 h2
    simp only [List.length_set, mpsE_len] at h1
    rw [List.getElem_set]
    split
    · rename_i hij; subst hij; simp [mpsE, upM]
    · rename_i hij; simp [mpsE, upM, show ¬ j = i from fun h => hij h.symm]
theorem Mm_app (F : Mem) (n : Nat) (mp : Nat → List (Value × AV)) (G l : Mem) : Mm F n mp G ++ l = Mm F n mp (G ++ l) := by simp [Mm]
theorem Mm_len (F : Mem) (n : Nat) (mp : Nat → List (Value × AV)) (G : Mem) : (Mm F n mp G).length = F.length + (n + G.length) := by simp [Mm, mpsE_len]
theorem Mm_low {F : Mem} {r : Nat} {e : Ent} (h : F[r]? = some e) (n : Nat) (mp : Nat → List (Value × AV)) (G l : Mem) : (Mm F n mp G ++ l)[r]? = some e := by
  have hl := (List.getElem?_eq_some_iff.1 h).1
  rw [Mm_app, Mm, List.getElem?_append_left hl, h]
theorem Mm_map (F : Mem) (n : Nat) (mp : Nat → List (Value × AV)) (G l : Mem) {i : Nat} (h : i < n) : (Mm F n mp G ++ l)[F.length + i]? = some ⟨1, .mp (mp i)⟩ := by
  rw [Mm_app, Mm, List.getElem?_append_right (by omega), Nat.add_sub_cancel_left, List.getElem?_append_left (by rw [mpsE_len]; exact h)]
  simp [mpsE, h]
theorem Mm_setm (F : Mem) (n : Nat) (mp : Nat → List (Value × AV)) (G l : Mem) {i : Nat} (h : i < n) (L : List (Value × AV)) : (Mm F n mp G ++ l).set (F.length + i) ⟨1, .mp L⟩ = Mm F n (upM mp i L) G ++ l := by
  rw [Mm_app, Mm_app, Mm, Mm, List.set_append_right _ _ (by omega), Nat.add_sub_cancel_left, List.set_append_left _ _ (by rw [mpsE_len]; exact h), mpsE_set n mp L h]
/-- a counter in memory -/
structure CM (life : Int) (c : Nat) (ss : List Ln) (F : Mem) (N r vr il vl ik vk : Nat) : Prop where
  hN : F.length = N
  hr : F[r]? = some ⟨vr, .row 4 [.agg [.osl il vl 0 ss.length, .int life, .int c, .osl ik vk 0 ss.length]]⟩
  hl : F[il]? = some ⟨vl, .row 5 (ss.map lnA)⟩
  hk : F[ik]? = some ⟨vk, .row 1 (knL N ss.length)⟩
structure CV (life : Int) (c : Nat) (ss : List Ln) : Prop where
  life : 1 ≤ life ∧ life ≤ 100
  c4 : c ≤ 4
  l6 : ss.length ≤ 6
  asc : Asc Ln.fr ss
  ln : ∀ i, i < ss.length → (0 ≤ (ss.getD i ln0).fr ∧ (ss.getD i ln0).fr < (ss.getD i ln0).to ∧ (ss.getD i ln0).to ≤ 1440) ∧ 0 ≤ (ss.getD i ln0).uses ∧ (ss.getD i ln0).uses ≤ 100
def CtQ (life : Int) (c : Nat) (ss : List Ln) (F G : Mem) (mp : Nat → List (Value × AV)) (i : Nat) (m' : Mem) : Prop :=
  ∃ (mp' : Nat → List (Value × AV)) (J : Mem), (∀ j, j < i → mp' j = mp j) ∧ (∀ j, i ≤ j → j < ss.length → MoS life c (ss.drop j) (mp' j)) ∧ m' = Mm F ss.length mp' G ++ J
/-- the shelves of the array -/
def s8 (c : Nat) (s : List (Int × Int)) : List (Int × Int) := s ++ List.replicate (8 - c) (0, 0)
def mixS (f : Int) (s : List (Int × Int)) (k : Nat) : List (Int × Int) := clrS f (s.take k) ++ s.drop k
theorem mixS_0 (f : Int) (s : List (Int × Int)) : mixS f s 0 = s := by simp [mixS, clrS]
theorem mixS_len (f : Int) (s : List (Int × Int)) (k : Nat) : (mixS f s k).length = s.length := by simp [mixS, clrS]; omega
theorem mixS_get (f : Int) {s : List (Int × Int)} {k : Nat} (h : k < s.length) : (mixS f s k).getD k (0, 0) = s.getD k (0, 0) := by
  have hl : (clrS f (s.take k)).length = k := by simp [clrS]; omega
  unfold mixS
  rw [List.getD_eq_getElem?_getD, List.getElem?_append_right (by omega), hl, Nat.sub_self, List.getElem?_drop, List.getD_eq_getElem?_getD]
  rfl
theorem mixS_succ (f : Int) {s : List (Int × Int)} {k : Nat} (h : k < s.length) : (mixS f s k).set k (if (s.getD k (0, 0)).1 ≤ f then (0, (s.getD k (0, 0)).2) else s.getD k (0, 0)) = mixS f s (k + 1) := by
  have hl : (clrS f (s.take k)).length = k := by simp [clrS]; omega
  have e1 : s.take (k + 1) = s.take k ++ [s.getD k (0, 0)] := by rw [List.take_add_one]; simp [h]
  have e2 : s.drop k = s.getD k (0, 0) :: s.drop (k + 1) := by rw [List.drop_eq_getElem_cons h]; simp [h]
  unfold mixS
  rw [List.set_append_right _ _ (by omega), hl, Nat.sub_self, e1, e2]
  simp [clrS]
theorem mixS_same (f : Int) {s : List (Int × Int)} {k : Nat} (h : k < s.length) (hn : ¬ (s.getD k (0, 0)).1 ≤ f) : mixS f s (k + 1) = mixS f s k := by
  rw [← mixS_succ f h, if_neg hn, ← mixS_get f h]
  have hk : k < (mixS f s k).length := by rw [mixS_len]; exact h
  simp [hk]
theorem mixS_all (f : Int) {c : Nat} {s : List (Int × Int)} (h : s.length = c) : mixS f (s8 c s) c = s8 c (clrS f s) := by
  unfold mixS s8
  rw [List.take_append_of_le_length (by omega), List.take_of_length_le (by omega), List.drop_append_of_le_length (by omega), List.drop_of_length_le (by omega), List.nil_append]
theorem s8_len {c : Nat} {s : List (Int × Int)} (h : s.length = c) (hc : c ≤ 8) : (s8 c s).length = 8 := by simp [s8, h]; omega
theorem s8_get {c : Nat} {s : List (Int × Int)} {k : Nat} (h : k < s.length) : (s8 c s).getD k (0, 0) = s.getD k (0, 0) := by
  simp [s8, List.getElem?_append_left h]
theorem s8_set {c : Nat} {s : List (Int × Int)} {k : Nat} (h : k < s.length) (z : Int × Int) : (s8 c s).set k z = s8 c (s.set k z) := by
  simp [s8, List.set_append_left _ _ h]
theorem s8_sh {c : Nat} {s : List (Int × Int)} (h : s.length = c) (hc : c ≤ 8) (hb : ∀ p ∈ s, ShB p) : ShL (s8 c s) := by
  refine ⟨s8_len h hc, fun p hp => ?_⟩
  rcases List.mem_append.1 hp with q | q
  · exact hb p q
  · rw [List.eq_of_mem_replicate q]; exact ⟨by simp, by simp⟩
theorem clr_sh {f : Int} {s : List (Int × Int)} (hb : ∀ p ∈ s, ShB p) : ∀ p ∈ clrS f s, ShB p := fun p hp => by
  unfold clrS at hp
  obtain ⟨q, hq, rfl⟩ := List.mem_map.1 hp
  obtain ⟨h1, h2⟩ := hb q hq
  split
  · exact ⟨by simp, h2⟩
  · exact ⟨h1, h2⟩
theorem gS_le (fr to us : Ln → Int) (life : Int) : ∀ (ls : List Ln) (s : List (Int × Int)), gS fr to us life ls s ≤ s.length ^ ls.length
  | [], _ => by simp [gS]
  | l :: ls, s => by
    rw [gS_cons, List.length_cons, Nat.pow_succ, Nat.mul_comm]
    refine sgN_le fun k hk => ?_
    split
    · have := gS_le fr to us life ls (s.set k (to l, (s.getD k (0, 0)).2 + us l))
      rw [List.length_set] at this
      exact this
    · omega
theorem gS_small (fr to us : Ln → Int) (life : Int) {ls : List Ln} {s : List (Int × Int)} (h : s.length ≤ 4) (hl : ls.length ≤ 6) : gS fr to us life ls s ≤ 4096 := by
  have h1 := gS_le fr to us life ls s
  have h2 : s.length ^ ls.length ≤ 4 ^ ls.length := Nat.pow_le_pow_left h _
  have h3 : 4 ^ ls.length ≤ 4 ^ 6 := Nat.pow_le_pow_right (by omega) hl
  have h4 : (4 : Nat) ^ 6 = 4096 := by decide
  omega
theorem sgN_mono {f : Nat → Nat} {j : Nat} : ∀ {n : Nat}, j ≤ n → sgN j f ≤ sgN n f
  | 0, h => by obtain rfl : j = 0 := by omega
               exact Nat.le_refl _
  | n + 1, h => by
    by_cases e : j = n + 1
    · subst e; exact Nat.le_refl _
    · have := sgN_mono (f := f) (j := j) (n := n) (by omega)
      rw [sgN]; omega
theorem Asc.drop {fr : Ln → Int} : ∀ {ss : List Ln} {i : Nat}, Asc fr ss → Asc fr (ss.drop i)
  | [], i, _ => by simp [Asc]
  | _ :: _, 0, h => h
  | x :: ss, i + 1, h => by rw [List.drop_succ_cons]; exact Asc.drop h.2
end Go.Proofs.Try
set_option maxHeartbeats 8000000
set_option maxRecDepth 20000
namespace Go.Proofs.Try
open Go.Vg

/-! count -/
theorem ar109 : arT Try.prog 109 = some (8, 107) := by kernel_rfl
theorem tz107 : tsz Try.prog 107 = some 2 := by kernel_rfl
theorem count_spec {life : Int} {c : Nat} {ss : List Ln} {F : Mem} {N r vr il vl ik vk : Nat} (hp : CV life c ss) (hR : CM life c ss F N r vr il vl ik vk) :
    ∀ (xs : List Ln) (i : Nat) (ii : Int) (s : List (Int × Int)) (G : Mem) (mp : Nat → List (Value × AV)), ss.drop i = xs → i + xs.length = ss.length → ii = (i : Int) → s.length = c → (∀ p ∈ s, ShB p) → (∀ j, i ≤ j → j < ss.length → MoS life c (ss.drop j) (mp j)) →
      Go.Vg.Spec Try.prog 80 [.optr r vr 0 0, .int ii, .agg ((flS (s8 c s)).map AV.int)] (Mm F ss.length mp G) (fun y m' => y = .int (gS Ln.fr Ln.to Ln.uses life xs s : Nat) ∧ CtQ life c ss F G mp i m') := by
  obtain ⟨hlf, hc4, hl6, hasc, hln⟩ := hp
  obtain ⟨hN, hr, hl, hk⟩ := hR
  have hone : ∀ c : List Int, (∀ x, x ∈ List.map AV.int c → x.one) = True := fun c => eq_true fun x hx => by
    obtain ⟨a, _, rfl⟩ := List.mem_map.1 hx; simp [AV.one, Value.oneCell']
  have hfl : ∀ c : List Int, (AV.agg (List.map AV.int c)).flat = True := fun c => hone c
  intro xs
  induction xs with
  | nil =>
    intro i ii s G mp hxs hi hii hs hb hmp
    subst hii
    have hil : i = ss.length := by simpa using hi
    have hgr := Mm_low hr ss.length mp G
    have hB : (Mm F ss.length mp G).length = N + (ss.length + G.length) := by rw [Mm_len, hN]
    have hZ := flS_len (s8 c s)
    rw [s8_len hs (by omega)] at hZ
    generalize flS (s8 c s) = Z at *
    have hdt : decide ((i : Int) = (ss.length : Int)) = true := decide_eq_true (by omega)
    (refine Spec.of_bodyA Try.func80 rfl (by rw [Try.ntmps80]; simp) ?_; rw [Try.results80, Try.ntmps80]; simp only [entry, zipArgs, Nat.reduceAdd])
    repeat (first | apply Wp.seq | apply Wp.block | (apply Run.next; (simp only [push_cast, seval, hgr, hZ, hB, ↓hone, ↓hfl, hdt] <;> exact evT); ((try simp only [push_cast, seval, hgr, hZ, hB, ↓hone, ↓hfl, hdt]) <;> exact sT)) | (apply Run.nil; dsimp only [sQ, tQ, bQ]) | (refine Wp.rn ?_) | (apply Wp.skip; dsimp only [sQ, tQ, bQ]) | (apply Wp.exit; dsimp only [sQ, tQ, bQ]; simp only [reduceIte]) | (apply Run.gtrue; (simp only [push_cast, seval, hgr, hZ, hB, ↓hone, ↓hfl, hdt] <;> exact evT); (simp only [push_cast, seval, hgr, hZ, hB, ↓hone, ↓hfl, hdt] <;> exact evT)) | (apply Run.gfalse (.bool false); (simp only [push_cast, seval, hgr, hZ, hB, ↓hone, ↓hfl, hdt] <;> exact evT); dsimp only [S.put, optG]) | (apply Wp.condT; (simp only [push_cast, seval, hgr, hZ, hB, ↓hone, ↓hfl, hdt] <;> exact evT)) | (apply Wp.condF; (simp only [push_cast, seval, hgr, hZ, hB, ↓hone, ↓hfl, hdt] <;> exact evT)))
    (apply Wp.ret; (try dsimp only [sQ, tQ, bQ]); apply leaveA; exact rfl; (simp only [push_cast, seval, hgr, hZ, hB, ↓hone, ↓hfl, hdt] <;> exact evT); (focus (first | (simp only [push_cast, seval, hgr, hZ, hB, ↓hone, ↓hfl, hdt]; done) | trivial | (simp only [push_cast, seval, hgr, hZ, hB, ↓hone, ↓hfl, hdt]; trivial) | (simp; done))); (try simp only [push_cast, seval, hgr, hZ, hB, ↓hone, ↓hfl, hdt]))
    exact ⟨rfl, mp, _, fun _ _ => rfl, hmp, rfl⟩
  | cons x xs ih =>
    intro i ii s G mp hxs hi hii hs hb hmp
    subst hii
    have hin : i < ss.length := by simp at hi; omega
    have hx0 : ss.getD i ln0 = x ∧ ss.drop (i + 1) = xs := by
      rw [List.drop_eq_getElem_cons (by omega)] at hxs
      simp only [List.cons.injEq] at hxs
      exact ⟨by simp [show i < ss.length by omega, hxs.1], hxs.2⟩
    obtain ⟨hx0, hxs'⟩ := hx0
    have hxb := hln i hin
    rw [hx0] at hxb
    have hmo := hmp i (Nat.le_refl _) hin
    rw [hxs] at hmo
    have hgr := Mm_low hr ss.length
    have hgl := Mm_low hl ss.length
    have hgk := Mm_low hk ss.length
    have hgm := fun mp G l => Mm_map F ss.length mp G l hin
    have hsm := fun mp G l L => Mm_setm F ss.length mp G l hin L
    rw [hN] at hgm hsm
    obtain ⟨B, hBe⟩ : ∃ B, B = N + (ss.length + G.length) := ⟨_, rfl⟩
    have hB : ∀ mp, (Mm F ss.length mp G).length = B := fun mp => by rw [Mm_len, hN, hBe]
    have hb0 : ∀ mp l, (Mm F ss.length mp G ++ l)[B]? = l[0]? := fun mp l => getF0 (hB mp)
    have hbj : ∀ mp l j, (Mm F ss.length mp G ++ l)[B + j]? = l[j]? := fun mp l j => getF (hB mp) j
    have hs0 : ∀ mp l e, (Mm F ss.length mp G ++ l).set B e = Mm F ss.length mp G ++ l.set 0 e := fun mp l e => setF0 (hB mp) e
    have hsj : ∀ mp l j e, (Mm F ss.length mp G ++ l).set (B + j) e = Mm F ss.length mp G ++ l.set j e := fun mp l j e => setF (hB mp) j e
    have hap : ∀ mp (l l' : Mem), (Mm F ss.length mp G ++ l) ++ l' = Mm F ss.length mp G ++ (l ++ l') := fun mp l l' => List.append_assoc _ _ _
    have hdf : decide ((i : Int) = (ss.length : Int)) = false := decide_eq_false (by omega)
    have hki := fun d => knL_get (N := N) hin d
    have hknl : (knL N ss.length).length = ss.length := by simp [knL]
    have hgx : ∀ d, (ss.map lnA).getD i d = lnA x := fun d => by rw [getD_mapA hin d ln0, hx0]
    have hM0 := mixS_0 x.fr (s8 c s)
    have hMA := mixS_all x.fr hs
    have h8 := s8_len hs (by omega : c ≤ 8)
    have hZ := flS_len (s8 c s)
    rw [h8] at hZ
    have hZt : (flS (s8 c s)).take 16 = flS (s8 c s) := List.take_of_length_le (by omega)
    (refine Spec.of_bodyA Try.func80 rfl (by rw [Try.ntmps80]; simp) ?_; rw [Try.results80, Try.ntmps80]; simp only [entry, zipArgs, Nat.reduceAdd])
    repeat (first | apply Wp.seq | apply Wp.block | (apply Run.next; (simp only [push_cast, seval, hgr, hgl, hgk, hgm, hsm, hB, hb0, hbj, hs0, hsj, hap, ↓hone, ↓hfl, hdf, hZ, hZt, hki, hgx, lnA, List.length_append, Nat.mul_one, hknl] <;> exact evT); ((try simp only [push_cast, seval, hgr, hgl, hgk, hgm, hsm, hB, hb0, hbj, hs0, hsj, hap, ↓hone, ↓hfl, hdf, hZ, hZt, hki, hgx, lnA, List.length_append, Nat.mul_one, hknl]) <;> exact sT)) | (apply Run.nil; dsimp only [sQ, tQ, bQ]) | (refine Wp.rn ?_) | (apply Wp.skip; dsimp only [sQ, tQ, bQ]) | (apply Wp.exit; dsimp only [sQ, tQ, bQ]; simp only [reduceIte]) | (apply Run.gtrue; (simp only [push_cast, seval, hgr, hgl, hgk, hgm, hsm, hB, hb0, hbj, hs0, hsj, hap, ↓hone, ↓hfl, hdf, hZ, hZt, hki, hgx, lnA, List.length_append, Nat.mul_one, hknl] <;> exact evT); (simp only [push_cast, seval, hgr, hgl, hgk, hgm, hsm, hB, hb0, hbj, hs0, hsj, hap, ↓hone, ↓hfl, hdf, hZ, hZt, hki, hgx, lnA, List.length_append, Nat.mul_one, hknl] <;> exact evT)) | (apply Run.gfalse (.bool false); (simp only [push_cast, seval, hgr, hgl, hgk, hgm, hsm, hB, hb0, hbj, hs0, hsj, hap, ↓hone, ↓hfl, hdf, hZ, hZt, hki, hgx, lnA, List.length_append, Nat.mul_one, hknl] <;> exact evT); dsimp only [S.put, optG]) | (apply Wp.condT; (simp only [push_cast, seval, hgr, hgl, hgk, hgm, hsm, hB, hb0, hbj, hs0, hsj, hap, ↓hone, ↓hfl, hdf, hZ, hZt, hki, hgx, lnA, List.length_append, Nat.mul_one, hknl] <;> exact evT)) | (apply Wp.condF; (simp only [push_cast, seval, hgr, hgl, hgk, hgm, hsm, hB, hb0, hbj, hs0, hsj, hap, ↓hone, ↓hfl, hdf, hZ, hZt, hki, hgx, lnA, List.length_append, Nat.mul_one, hknl] <;> exact evT)))
    refine Wp.loop (fun (k : Nat) => { t := [(0, .optr r vr 0 0), (1, .int i), (5, .optr B 0 0 0), (6, .int 0), (7, .optr (B + 1) 0 0 0), (30, .int c), (31, .int k)], m := Mm F ss.length mp G ++ [⟨0, .row 16 [.agg ((flS (mixS x.fr (s8 c s) k)).map AV.int)]⟩, ⟨0, .row 5 [lnA x]⟩], n := 123 }) (fun k => k ≤ c) (fun k => c - k) 0 ?_ ?_ ?_
    · rw [hM0]
      (refine Le.of ?_ ?_ rfl rfl <;> (try simp only [push_cast, seval, hgr, hgl, hgk, hgm, hsm, hB, hb0, hbj, hs0, hsj, hap, ↓hone, ↓hfl, hdf, hZ, hZt, hki, hgx, lnA, List.length_append, Nat.mul_one, hknl]) <;> (try (with_reducible rfl)))
      all_goals rfl
    · simp
    · intro k hk4
      have hMl := mixS_len x.fr (s8 c s) k
      rw [h8] at hMl
      have hFl := flS_len (mixS x.fr (s8 c s) k)
      rw [hMl] at hFl
      repeat (first | apply Wp.seq | apply Wp.block | (apply Run.next; (simp only [push_cast, seval, hgr, hgl, hgk, hgm, hsm, hB, hb0, hbj, hs0, hsj, hap, ↓hone, ↓hfl, hdf, hZ, hZt, hki, hgx, lnA, List.length_append, Nat.mul_one, hknl] <;> exact evT); ((try simp only [push_cast, seval, hgr, hgl, hgk, hgm, hsm, hB, hb0, hbj, hs0, hsj, hap, ↓hone, ↓hfl, hdf, hZ, hZt, hki, hgx, lnA, List.length_append, Nat.mul_one, hknl]) <;> exact sT)) | (apply Run.nil; dsimp only [sQ, tQ, bQ]) | (refine Wp.rn ?_) | (apply Wp.skip; dsimp only [sQ, tQ, bQ]) | (apply Wp.exit; dsimp only [sQ, tQ, bQ]; simp only [reduceIte]))
      rcases Nat.lt_or_ge k c with hk5 | hk5
      · have hlt : decide ((k : Int) < (c : Int)) = true := decide_eq_true (by omega)
        have hg0 := @flS_get0 (mixS x.fr (s8 c s) k) k
        rw [mixS_get x.fr (by omega)] at hg0
        have hsu := mixS_succ x.fr (s := s8 c s) (k := k) (by omega)
        have hsa := mixS_same x.fr (s := s8 c s) (k := k) (by omega)
        have hst := flS_set0 0 (s := mixS x.fr (s8 c s) k) (k := k) (by omega)
        rw [mixS_get x.fr (by omega)] at hst
        generalize mixS x.fr (s8 c s) k = M at *
        generalize (s8 c s).getD k (0, 0) = p at *
        obtain ⟨u, hu⟩ : ∃ u, p.1 = u := ⟨_, rfl⟩
        rw [hu] at hg0 hsu hsa
        have hgd : ∀ d, ((flS M).map AV.int).getD (k * 2) d = .int u := fun d => by
          rw [getD_mapA (by omega) d 0, hg0]
        have hmd := set_mid (flS M) (k * 2) 0 (by omega)
        repeat (first | apply Wp.seq | apply Wp.block | (apply Run.next; (simp only [push_cast, seval, hgr, hgl, hgk, hgm, hsm, hB, hb0, hbj, hs0, hsj, hap, ↓hone, ↓hfl, hdf, hki, lnA, List.length_append, Nat.mul_one, hknl, hlt, hgd, hFl, hmd] <;> exact evT); ((try simp only [push_cast, seval, hgr, hgl, hgk, hgm, hsm, hB, hb0, hbj, hs0, hsj, hap, ↓hone, ↓hfl, hdf, hki, lnA, List.length_append, Nat.mul_one, hknl, hlt, hgd, hFl, hmd]) <;> exact sT)) | (apply Run.nil; dsimp only [sQ, tQ, bQ]) | (refine Wp.rn ?_) | (apply Wp.skip; dsimp only [sQ, tQ, bQ]) | (apply Wp.exit; dsimp only [sQ, tQ, bQ]; simp only [reduceIte]) | (apply Run.gtrue; (simp only [push_cast, seval, hgr, hgl, hgk, hgm, hsm, hB, hb0, hbj, hs0, hsj, hap, ↓hone, ↓hfl, hdf, hki, lnA, List.length_append, Nat.mul_one, hknl, hlt, hgd, hFl, hmd] <;> exact evT); (simp only [push_cast, seval, hgr, hgl, hgk, hgm, hsm, hB, hb0, hbj, hs0, hsj, hap, ↓hone, ↓hfl, hdf, hki, lnA, List.length_append, Nat.mul_one, hknl, hlt, hgd, hFl, hmd] <;> exact evT)) | (apply Run.gfalse (.bool false); (simp only [push_cast, seval, hgr, hgl, hgk, hgm, hsm, hB, hb0, hbj, hs0, hsj, hap, ↓hone, ↓hfl, hdf, hki, lnA, List.length_append, Nat.mul_one, hknl, hlt, hgd, hFl, hmd] <;> exact evT); dsimp only [S.put, optG]) | (apply Wp.condT; (simp only [push_cast, seval, hgr, hgl, hgk, hgm, hsm, hB, hb0, hbj, hs0, hsj, hap, ↓hone, ↓hfl, hdf, hki, lnA, List.length_append, Nat.mul_one, hknl, hlt, hgd, hFl, hmd] <;> exact evT)) | (apply Wp.condF; (simp only [push_cast, seval, hgr, hgl, hgk, hgm, hsm, hB, hb0, hbj, hs0, hsj, hap, ↓hone, ↓hfl, hdf, hki, lnA, List.length_append, Nat.mul_one, hknl, hlt, hgd, hFl, hmd] <;> exact evT)))
        (refine Wp.rnD 7 ?_; apply exAb; (((repeat (apply Abn.next; (simp only [push_cast, seval, hgr, hgl, hgk, hgm, hsm, hB, hb0, hbj, hs0, hsj, hap, ↓hone, ↓hfl, hdf, hki, lnA, List.length_append, Nat.mul_one, hknl, hlt, hgd, hFl, hmd] <;> exact evT); ((try simp only [push_cast, seval, hgr, hgl, hgk, hgm, hsm, hB, hb0, hbj, hs0, hsj, hap, ↓hone, ↓hfl, hdf, hki, lnA, List.length_append, Nat.mul_one, hknl, hlt, hgd, hFl, hmd]) <;> exact sT)))); exact Abn.nil))
        repeat (first | apply Wp.seq | apply Wp.block | (apply Run.next; (simp only [push_cast, seval, hgr, hgl, hgk, hgm, hsm, hB, hb0, hbj, hs0, hsj, hap, ↓hone, ↓hfl, hdf, hki, lnA, List.length_append, Nat.mul_one, hknl, hlt, hgd, hFl, hmd] <;> exact evT); ((try simp only [push_cast, seval, hgr, hgl, hgk, hgm, hsm, hB, hb0, hbj, hs0, hsj, hap, ↓hone, ↓hfl, hdf, hki, lnA, List.length_append, Nat.mul_one, hknl, hlt, hgd, hFl, hmd]) <;> exact sT)) | (apply Run.nil; dsimp only [sQ, tQ, bQ]) | (refine Wp.rn ?_) | (apply Wp.skip; dsimp only [sQ, tQ, bQ]) | (apply Wp.exit; dsimp only [sQ, tQ, bQ]; simp only [reduceIte]))
        (apply Wp.cond; (simp only [push_cast, seval, hgr, hgl, hgk, hgm, hsm, hB, hb0, hbj, hs0, hsj, hap, ↓hone, ↓hfl, hdf, hki, lnA, List.length_append, Nat.mul_one, hknl, hlt, hgd, hFl, hmd] <;> exact evT))
        · intro h4
          simp only [decide_eq_true_eq] at h4
          rw [if_pos h4] at hsu
          rw [hsu] at hst
          repeat (first | apply Wp.seq | apply Wp.block | (apply Run.next; (simp only [push_cast, seval, hgr, hgl, hgk, hgm, hsm, hB, hb0, hbj, hs0, hsj, hap, ↓hone, ↓hfl, hdf, hki, lnA, List.length_append, Nat.mul_one, hknl, hlt, hgd, hFl, hmd] <;> exact evT); ((try simp only [push_cast, seval, hgr, hgl, hgk, hgm, hsm, hB, hb0, hbj, hs0, hsj, hap, ↓hone, ↓hfl, hdf, hki, lnA, List.length_append, Nat.mul_one, hknl, hlt, hgd, hFl, hmd]) <;> exact sT)) | (apply Run.nil; dsimp only [sQ, tQ, bQ]) | (refine Wp.rn ?_) | (apply Wp.skip; dsimp only [sQ, tQ, bQ]) | (apply Wp.exit; dsimp only [sQ, tQ, bQ]; simp only [reduceIte]))
          refine ⟨k + 1, ?_, by omega, by omega⟩
          rw [← hst]
          (refine Le.of ?_ ?_ rfl rfl <;> (try simp only [push_cast, seval, hgr, hgl, hgk, hgm, hsm, hB, hb0, hbj, hs0, hsj, hap, ↓hone, ↓hfl, hdf, hki, lnA, List.length_append, Nat.mul_one, hknl, hlt, hgd, hFl, hmd]) <;> (try (with_reducible rfl)))
        · intro h4
          simp only [decide_eq_false_iff_not] at h4
          rw [← hsa h4]
          repeat (first | apply Wp.seq | apply Wp.block | (apply Run.next; (simp only [push_cast, seval, hgr, hgl, hgk, hgm, hsm, hB, hb0, hbj, hs0, hsj, hap, ↓hone, ↓hfl, hdf, hki, lnA, List.length_append, Nat.mul_one, hknl, hlt, hgd, hFl, hmd] <;> exact evT); ((try simp only [push_cast, seval, hgr, hgl, hgk, hgm, hsm, hB, hb0, hbj, hs0, hsj, hap, ↓hone, ↓hfl, hdf, hki, lnA, List.length_append, Nat.mul_one, hknl, hlt, hgd, hFl, hmd]) <;> exact sT)) | (apply Run.nil; dsimp only [sQ, tQ, bQ]) | (refine Wp.rn ?_) | (apply Wp.skip; dsimp only [sQ, tQ, bQ]) | (apply Wp.exit; dsimp only [sQ, tQ, bQ]; simp only [reduceIte]))
          refine ⟨k + 1, ?_, by omega, by omega⟩
          (refine Le.of ?_ ?_ rfl rfl <;> (try simp only [push_cast, seval, hgr, hgl, hgk, hgm, hsm, hB, hb0, hbj, hs0, hsj, hap, ↓hone, ↓hfl, hdf, hki, lnA, List.length_append, Nat.mul_one, hknl, hlt, hgd, hFl, hmd]) <;> (try (with_reducible rfl)))
      · have hkc : k = c := by omega
        subst hkc
        have hlt : decide ((k : Int) < (k : Int)) = false := decide_eq_false (by omega)
        rw [hMA] at hFl hMl ⊢
        have hcs := clr_sh (f := x.fr) hb
        have hcl := clrS_len x.fr s
        have hcm : ∀ p ∈ clrS x.fr s, p.1 ≤ 0 ∨ x.fr < p.1 := fun p hp => clrS_mem hp
        have hgc := gS_clr (fr := Ln.fr) (to := Ln.to) (us := Ln.uses) (life := life) (f := x.fr) (x :: xs) s (fun l hl => by
          have hasc2 := Asc.drop (i := i) hasc
          rw [hxs] at hasc2
          have hm : l ∈ ss := List.mem_of_mem_drop (i := i) (by rw [hxs]; exact hl)
          obtain ⟨q, hq, rfl⟩ := List.getElem_of_mem hm
          have hb2 := hln q hq
          rw [show ss.getD q ln0 = ss[q] by simp [hq]] at hb2
          refine ⟨?_, hb2.1.1, hb2.1.2.1, hb2.2.1⟩
          rcases List.mem_cons.1 hl with e | e
          · rw [e]; exact Int.le_refl _
          · exact hasc2.1 _ e)
        generalize clrS x.fr s = C at *
        refine Wp.recut 5 (id := B) (ver := 0) (sz := 16) (sz' := 2) (ls := [(flS (s8 k C)).map AV.int]) (ls' := (s8 k C).map fun p => [AV.int p.1, AV.int p.2]) ?_ ?_ ?_ ?_ ?_ ?_ ?_
        · exact rfl
        · exact (hb0 _ _).trans rfl
        · simp only [List.mem_singleton]; rintro _ rfl; rw [List.length_map, hFl]
        · intro ys hys
          obtain ⟨p, _, rfl⟩ := List.mem_map.1 hys
          rfl
        · rw [flS_agg]; simp
        · intro h; cases h
        rw [pr_agg]
        simp only [hs0, List.set_cons_zero]
        have hcl' := hcl.trans hs
        have hsh := s8_sh (c := k) hcl' (by omega) hcs
        have hsort := sortSh_spec (m := Mm F ss.length mp G ++ [⟨1, .row 2 ((s8 k C).map prA)⟩, ⟨0, .row 5 [lnA x]⟩]) (e := B) (ver := 1) (g := 91) (caps := []) (caps' := []) (ky := kySh) (Enters.of Try.func91 rfl rfl) (s8 k C) k (by rw [hsh.1]; omega) (by omega) (by rw [List.length_append, hB]; simp) (fun _ => .nil) (by simp [okL]) (fun a ha b hb => cmpSh_pure a b (hsh.2 a ha) (hsh.2 b hb)) (by rw [hsh.1]; omega)
        have htk : (s8 k C).take k = C := by unfold s8; rw [List.take_append_of_le_length (by omega), List.take_of_length_le (by omega)]
        have hdr : (s8 k C).drop k = List.replicate (8 - k) (0, 0) := by unfold s8; rw [List.drop_append_of_le_length (by omega), List.drop_of_length_le (by omega), List.nil_append]
        rw [htk, hdr] at hsort
        simp only [hs0, List.set_cons_zero] at hsort
        repeat (first | apply Wp.seq | apply Wp.block | (apply Run.next; (simp only [push_cast, seval, hgr, hgl, hgk, hgm, hsm, hB, hb0, hbj, hs0, hsj, hap, ↓hone, ↓hfl, hdf, hki, lnA, List.length_append, Nat.mul_one, hknl, hlt] <;> exact evT); ((try simp only [push_cast, seval, hgr, hgl, hgk, hgm, hsm, hB, hb0, hbj, hs0, hsj, hap, ↓hone, ↓hfl, hdf, hki, lnA, List.length_append, Nat.mul_one, hknl, hlt]) <;> exact sT)) | (apply Run.nil; dsimp only [sQ, tQ, bQ]) | (refine Wp.rn ?_) | (apply Wp.skip; dsimp only [sQ, tQ, bQ]) | (apply Wp.exit; dsimp only [sQ, tQ, bQ]; simp only [reduceIte]) | (apply Run.gtrue; (simp only [push_cast, seval, hgr, hgl, hgk, hgm, hsm, hB, hb0, hbj, hs0, hsj, hap, ↓hone, ↓hfl, hdf, hki, lnA, List.length_append, Nat.mul_one, hknl, hlt] <;> exact evT); (simp only [push_cast, seval, hgr, hgl, hgk, hgm, hsm, hB, hb0, hbj, hs0, hsj, hap, ↓hone, ↓hfl, hdf, hki, lnA, List.length_append, Nat.mul_one, hknl, hlt] <;> exact evT)) | (apply Run.gfalse (.bool false); (simp only [push_cast, seval, hgr, hgl, hgk, hgm, hsm, hB, hb0, hbj, hs0, hsj, hap, ↓hone, ↓hfl, hdf, hki, lnA, List.length_append, Nat.mul_one, hknl, hlt] <;> exact evT); dsimp only [S.put, optG]) | (apply Wp.condT; (simp only [push_cast, seval, hgr, hgl, hgk, hgm, hsm, hB, hb0, hbj, hs0, hsj, hap, ↓hone, ↓hfl, hdf, hki, lnA, List.length_append, Nat.mul_one, hknl, hlt] <;> exact evT)) | (apply Wp.condF; (simp only [push_cast, seval, hgr, hgl, hgk, hgm, hsm, hB, hb0, hbj, hs0, hsj, hap, ↓hone, ↓hfl, hdf, hki, lnA, List.length_append, Nat.mul_one, hknl, hlt] <;> exact evT)))
        apply Run.sliceArr (id := B) (ver := 1) (b := k) (xs := (s8 k C).map prA) (k := .i64) ar109 tz107
        · exact rfl
        · exact (hb0 _ _).trans rfl
        · rw [List.length_map, hsh.1]; omega
        · decide
        · exact rfl
        · omega
        · (try dsimp only [S.put, optG])
          apply Run.spec (he := Enters.of Try.func90 rfl rfl) (hc := hsort)
          · exact rfl
          · exact rfl
          · (simp only [push_cast, seval, hgr, hgl, hgk, hgm, hsm, hB, hb0, hbj, hs0, hsj, hap, ↓hone, ↓hfl, hdf, hki, lnA, List.length_append, Nat.mul_one, hknl, hlt] <;> exact evT)
          · rintro _ _ ⟨T, hT1, hT2, -, rfl⟩
            rw [show T ++ List.replicate (8 - k) (0, 0) = s8 k T from rfl]
            dsimp only [S.put, optG]
            (apply Run.nil; dsimp only [sQ, tQ, bQ])
            have hTs : ∀ p ∈ T, ShB p := fun p hp => hcs p (hT2.mem_iff.1 hp)
            have hTsh := s8_sh (c := k) hT1 (by omega) hTs
            have hgT := (gS_perm (fr := Ln.fr) (to := Ln.to) (us := Ln.uses) (life := life) (x :: xs) hT2).trans hgc
            have hT8 : (s8 k T).length = 8 := hTsh.1
            have hWl := flS_len (s8 k T)
            rw [hTsh.1] at hWl
            refine Wp.recut 5 (id := B) (ver := 1) (sz := 2) (sz' := 16) (ls := (s8 k T).map fun p => [AV.int p.1, AV.int p.2]) (ls' := [(flS (s8 k T)).map AV.int]) ?_ ?_ ?_ ?_ ?_ ?_ ?_
            · exact rfl
            · rw [pr_agg]; exact (hb0 _ _).trans rfl
            · intro ys hys
              obtain ⟨p, _, rfl⟩ := List.mem_map.1 hys
              rfl
            · simp only [List.mem_singleton]; rintro _ rfl; rw [List.length_map, hWl]
            · rw [flS_agg]; simp
            · intro h
              have := congrArg List.length h
              rw [List.length_map, hTsh.1] at this
              cases this
            simp only [hs0, List.set_cons_zero, List.map_cons, List.map_nil]
            have hWt : (flS (s8 k T)).take 16 = flS (s8 k T) := List.take_of_length_le (by omega)
            have hkv := keyVs_ints (flS (s8 k T))
            have hek : eqKey (Value.agg (List.map (Value.int IntKind.i64) (flS (s8 k T))).toArray) (Value.agg (List.map (Value.int IntKind.i64) (flS (s8 k T))).toArray) = true := by
              have := eqKey_B (flS (s8 k T)) (flS (s8 k T)); simpa using this
            have hgb := goodSS hTsh
            have hgl2 := hmo.good
            have hkB : Maps.Keyed Try.prog 109 = True := eq_true keyedS
            have hmv := fun v => hmo.val T v hT1
            have hup := hmo.upd hT1 hTsh
            rw [hgT] at hmv hup
            rw [show T ++ List.replicate (8 - k) (0, 0) = s8 k T from rfl] at hup
            change ∀ v, findL (mp i) (kyV (flS (s8 k T))) = some v → v = _ at hmv
            generalize hLm : mp i = L0 at hmo hgl2 hmv hup
            cases hf : findL L0 (kyV (flS (s8 k T))) with
            | some v =>
              obtain rfl := hmv v hf
              repeat (first | apply Wp.seq | apply Wp.block | (apply Run.next; (simp only [push_cast, seval, hgr, hgl, hgk, hgm, hsm, hB, hb0, hbj, hs0, hsj, hap, ↓hone, ↓hfl, hdf, hki, lnA, List.length_append, Nat.mul_one, hknl, hWl, hWt, hkv, hek, hgb, hkB, hgl2, hLm, hf] <;> exact evT); ((try simp only [push_cast, seval, hgr, hgl, hgk, hgm, hsm, hB, hb0, hbj, hs0, hsj, hap, ↓hone, ↓hfl, hdf, hki, lnA, List.length_append, Nat.mul_one, hknl, hWl, hWt, hkv, hek, hgb, hkB, hgl2, hLm, hf]) <;> exact sT)) | (apply Run.nil; dsimp only [sQ, tQ, bQ]) | (refine Wp.rn ?_) | (apply Wp.skip; dsimp only [sQ, tQ, bQ]) | (apply Wp.exit; dsimp only [sQ, tQ, bQ]; simp only [reduceIte]) | (apply Run.gtrue; (simp only [push_cast, seval, hgr, hgl, hgk, hgm, hsm, hB, hb0, hbj, hs0, hsj, hap, ↓hone, ↓hfl, hdf, hki, lnA, List.length_append, Nat.mul_one, hknl, hWl, hWt, hkv, hek, hgb, hkB, hgl2, hLm, hf] <;> exact evT); (simp only [push_cast, seval, hgr, hgl, hgk, hgm, hsm, hB, hb0, hbj, hs0, hsj, hap, ↓hone, ↓hfl, hdf, hki, lnA, List.length_append, Nat.mul_one, hknl, hWl, hWt, hkv, hek, hgb, hkB, hgl2, hLm, hf] <;> exact evT)) | (apply Run.gfalse (.bool false); (simp only [push_cast, seval, hgr, hgl, hgk, hgm, hsm, hB, hb0, hbj, hs0, hsj, hap, ↓hone, ↓hfl, hdf, hki, lnA, List.length_append, Nat.mul_one, hknl, hWl, hWt, hkv, hek, hgb, hkB, hgl2, hLm, hf] <;> exact evT); dsimp only [S.put, optG]) | (apply Wp.condT; (simp only [push_cast, seval, hgr, hgl, hgk, hgm, hsm, hB, hb0, hbj, hs0, hsj, hap, ↓hone, ↓hfl, hdf, hki, lnA, List.length_append, Nat.mul_one, hknl, hWl, hWt, hkv, hek, hgb, hkB, hgl2, hLm, hf] <;> exact evT)) | (apply Wp.condF; (simp only [push_cast, seval, hgr, hgl, hgk, hgm, hsm, hB, hb0, hbj, hs0, hsj, hap, ↓hone, ↓hfl, hdf, hki, lnA, List.length_append, Nat.mul_one, hknl, hWl, hWt, hkv, hek, hgb, hkB, hgl2, hLm, hf] <;> exact evT)))
              (refine Wp.rnD 14 ?_; apply exAb; (((repeat (apply Abn.next; (simp only [push_cast, seval, hgr, hgl, hgk, hgm, hsm, hB, hb0, hbj, hs0, hsj, hap, ↓hone, ↓hfl, hdf, hki, lnA, List.length_append, Nat.mul_one, hknl, hWl, hWt, hkv, hek, hgb, hkB, hgl2, hLm, hf] <;> exact evT); ((try simp only [push_cast, seval, hgr, hgl, hgk, hgm, hsm, hB, hb0, hbj, hs0, hsj, hap, ↓hone, ↓hfl, hdf, hki, lnA, List.length_append, Nat.mul_one, hknl, hWl, hWt, hkv, hek, hgb, hkB, hgl2, hLm, hf]) <;> exact sT)))); exact Abn.nil))
              repeat (first | apply Wp.seq | apply Wp.block | (apply Run.next; (simp only [push_cast, seval, hgr, hgl, hgk, hgm, hsm, hB, hb0, hbj, hs0, hsj, hap, ↓hone, ↓hfl, hdf, hki, lnA, List.length_append, Nat.mul_one, hknl, hWl, hWt, hkv, hek, hgb, hkB, hgl2, hLm, hf] <;> exact evT); ((try simp only [push_cast, seval, hgr, hgl, hgk, hgm, hsm, hB, hb0, hbj, hs0, hsj, hap, ↓hone, ↓hfl, hdf, hki, lnA, List.length_append, Nat.mul_one, hknl, hWl, hWt, hkv, hek, hgb, hkB, hgl2, hLm, hf]) <;> exact sT)) | (apply Run.nil; dsimp only [sQ, tQ, bQ]) | (refine Wp.rn ?_) | (apply Wp.skip; dsimp only [sQ, tQ, bQ]) | (apply Wp.exit; dsimp only [sQ, tQ, bQ]; simp only [reduceIte]) | (apply Run.gtrue; (simp only [push_cast, seval, hgr, hgl, hgk, hgm, hsm, hB, hb0, hbj, hs0, hsj, hap, ↓hone, ↓hfl, hdf, hki, lnA, List.length_append, Nat.mul_one, hknl, hWl, hWt, hkv, hek, hgb, hkB, hgl2, hLm, hf] <;> exact evT); (simp only [push_cast, seval, hgr, hgl, hgk, hgm, hsm, hB, hb0, hbj, hs0, hsj, hap, ↓hone, ↓hfl, hdf, hki, lnA, List.length_append, Nat.mul_one, hknl, hWl, hWt, hkv, hek, hgb, hkB, hgl2, hLm, hf] <;> exact evT)) | (apply Run.gfalse (.bool false); (simp only [push_cast, seval, hgr, hgl, hgk, hgm, hsm, hB, hb0, hbj, hs0, hsj, hap, ↓hone, ↓hfl, hdf, hki, lnA, List.length_append, Nat.mul_one, hknl, hWl, hWt, hkv, hek, hgb, hkB, hgl2, hLm, hf] <;> exact evT); dsimp only [S.put, optG]) | (apply Wp.condT; (simp only [push_cast, seval, hgr, hgl, hgk, hgm, hsm, hB, hb0, hbj, hs0, hsj, hap, ↓hone, ↓hfl, hdf, hki, lnA, List.length_append, Nat.mul_one, hknl, hWl, hWt, hkv, hek, hgb, hkB, hgl2, hLm, hf] <;> exact evT)) | (apply Wp.condF; (simp only [push_cast, seval, hgr, hgl, hgk, hgm, hsm, hB, hb0, hbj, hs0, hsj, hap, ↓hone, ↓hfl, hdf, hki, lnA, List.length_append, Nat.mul_one, hknl, hWl, hWt, hkv, hek, hgb, hkB, hgl2, hLm, hf] <;> exact evT)))
              (apply Wp.ret; (try dsimp only [sQ, tQ, bQ]); apply leaveA; exact rfl; (simp only [push_cast, seval, hgr, hgl, hgk, hgm, hsm, hB, hb0, hbj, hs0, hsj, hap, ↓hone, ↓hfl, hdf, hki, lnA, List.length_append, Nat.mul_one, hknl, hWl, hWt, hkv, hek, hgb, hkB, hgl2, hLm, hf] <;> exact evT); (focus (first | (simp only [push_cast, seval, hgr, hgl, hgk, hgm, hsm, hB, hb0, hbj, hs0, hsj, hap, ↓hone, ↓hfl, hdf, hki, lnA, List.length_append, Nat.mul_one, hknl, hWl, hWt, hkv, hek, hgb, hkB, hgl2, hLm, hf]; done) | trivial | (simp only [push_cast, seval, hgr, hgl, hgk, hgm, hsm, hB, hb0, hbj, hs0, hsj, hap, ↓hone, ↓hfl, hdf, hki, lnA, List.length_append, Nat.mul_one, hknl, hWl, hWt, hkv, hek, hgb, hkB, hgl2, hLm, hf]; trivial) | (simp; done))); (try simp only [push_cast, seval, hgr, hgl, hgk, hgm, hsm, hB, hb0, hbj, hs0, hsj, hap, ↓hone, ↓hfl, hdf, hki, lnA, List.length_append, Nat.mul_one, hknl, hWl, hWt, hkv, hek, hgb, hkB, hgl2, hLm, hf]))
              exact ⟨mp, _, fun _ _ => rfl, hmp, rfl⟩
            | none =>
              repeat (first | apply Wp.seq | apply Wp.block | (apply Run.next; (simp only [push_cast, seval, hgr, hgl, hgk, hgm, hsm, hB, hb0, hbj, hs0, hsj, hap, ↓hone, ↓hfl, hdf, hki, lnA, List.length_append, Nat.mul_one, hknl, hWl, hWt, hkv, hek, hgb, hkB, hgl2, hLm, hf] <;> exact evT); ((try simp only [push_cast, seval, hgr, hgl, hgk, hgm, hsm, hB, hb0, hbj, hs0, hsj, hap, ↓hone, ↓hfl, hdf, hki, lnA, List.length_append, Nat.mul_one, hknl, hWl, hWt, hkv, hek, hgb, hkB, hgl2, hLm, hf]) <;> exact sT)) | (apply Run.nil; dsimp only [sQ, tQ, bQ]) | (refine Wp.rn ?_) | (apply Wp.skip; dsimp only [sQ, tQ, bQ]) | (apply Wp.exit; dsimp only [sQ, tQ, bQ]; simp only [reduceIte]) | (apply Run.gtrue; (simp only [push_cast, seval, hgr, hgl, hgk, hgm, hsm, hB, hb0, hbj, hs0, hsj, hap, ↓hone, ↓hfl, hdf, hki, lnA, List.length_append, Nat.mul_one, hknl, hWl, hWt, hkv, hek, hgb, hkB, hgl2, hLm, hf] <;> exact evT); (simp only [push_cast, seval, hgr, hgl, hgk, hgm, hsm, hB, hb0, hbj, hs0, hsj, hap, ↓hone, ↓hfl, hdf, hki, lnA, List.length_append, Nat.mul_one, hknl, hWl, hWt, hkv, hek, hgb, hkB, hgl2, hLm, hf] <;> exact evT)) | (apply Run.gfalse (.bool false); (simp only [push_cast, seval, hgr, hgl, hgk, hgm, hsm, hB, hb0, hbj, hs0, hsj, hap, ↓hone, ↓hfl, hdf, hki, lnA, List.length_append, Nat.mul_one, hknl, hWl, hWt, hkv, hek, hgb, hkB, hgl2, hLm, hf] <;> exact evT); dsimp only [S.put, optG]) | (apply Wp.condT; (simp only [push_cast, seval, hgr, hgl, hgk, hgm, hsm, hB, hb0, hbj, hs0, hsj, hap, ↓hone, ↓hfl, hdf, hki, lnA, List.length_append, Nat.mul_one, hknl, hWl, hWt, hkv, hek, hgb, hkB, hgl2, hLm, hf] <;> exact evT)) | (apply Wp.condF; (simp only [push_cast, seval, hgr, hgl, hgk, hgm, hsm, hB, hb0, hbj, hs0, hsj, hap, ↓hone, ↓hfl, hdf, hki, lnA, List.length_append, Nat.mul_one, hknl, hWl, hWt, hkv, hek, hgb, hkB, hgl2, hLm, hf] <;> exact evT)))
              (refine Wp.rnD 14 ?_; apply exAb; (((repeat (apply Abn.next; (simp only [push_cast, seval, hgr, hgl, hgk, hgm, hsm, hB, hb0, hbj, hs0, hsj, hap, ↓hone, ↓hfl, hdf, hki, lnA, List.length_append, Nat.mul_one, hknl, hWl, hWt, hkv, hek, hgb, hkB, hgl2, hLm, hf] <;> exact evT); ((try simp only [push_cast, seval, hgr, hgl, hgk, hgm, hsm, hB, hb0, hbj, hs0, hsj, hap, ↓hone, ↓hfl, hdf, hki, lnA, List.length_append, Nat.mul_one, hknl, hWl, hWt, hkv, hek, hgb, hkB, hgl2, hLm, hf]) <;> exact sT)))); exact Abn.nil))
              repeat (first | apply Wp.seq | apply Wp.block | (apply Run.next; (simp only [push_cast, seval, hgr, hgl, hgk, hgm, hsm, hB, hb0, hbj, hs0, hsj, hap, ↓hone, ↓hfl, hdf, hki, lnA, List.length_append, Nat.mul_one, hknl, hWl, hWt, hkv, hek, hgb, hkB, hgl2, hLm, hf] <;> exact evT); ((try simp only [push_cast, seval, hgr, hgl, hgk, hgm, hsm, hB, hb0, hbj, hs0, hsj, hap, ↓hone, ↓hfl, hdf, hki, lnA, List.length_append, Nat.mul_one, hknl, hWl, hWt, hkv, hek, hgb, hkB, hgl2, hLm, hf]) <;> exact sT)) | (apply Run.nil; dsimp only [sQ, tQ, bQ]) | (refine Wp.rn ?_) | (apply Wp.skip; dsimp only [sQ, tQ, bQ]) | (apply Wp.exit; dsimp only [sQ, tQ, bQ]; simp only [reduceIte]) | (apply Run.gtrue; (simp only [push_cast, seval, hgr, hgl, hgk, hgm, hsm, hB, hb0, hbj, hs0, hsj, hap, ↓hone, ↓hfl, hdf, hki, lnA, List.length_append, Nat.mul_one, hknl, hWl, hWt, hkv, hek, hgb, hkB, hgl2, hLm, hf] <;> exact evT); (simp only [push_cast, seval, hgr, hgl, hgk, hgm, hsm, hB, hb0, hbj, hs0, hsj, hap, ↓hone, ↓hfl, hdf, hki, lnA, List.length_append, Nat.mul_one, hknl, hWl, hWt, hkv, hek, hgb, hkB, hgl2, hLm, hf] <;> exact evT)) | (apply Run.gfalse (.bool false); (simp only [push_cast, seval, hgr, hgl, hgk, hgm, hsm, hB, hb0, hbj, hs0, hsj, hap, ↓hone, ↓hfl, hdf, hki, lnA, List.length_append, Nat.mul_one, hknl, hWl, hWt, hkv, hek, hgb, hkB, hgl2, hLm, hf] <;> exact evT); dsimp only [S.put, optG]) | (apply Wp.condT; (simp only [push_cast, seval, hgr, hgl, hgk, hgm, hsm, hB, hb0, hbj, hs0, hsj, hap, ↓hone, ↓hfl, hdf, hki, lnA, List.length_append, Nat.mul_one, hknl, hWl, hWt, hkv, hek, hgb, hkB, hgl2, hLm, hf] <;> exact evT)) | (apply Wp.condF; (simp only [push_cast, seval, hgr, hgl, hgk, hgm, hsm, hB, hb0, hbj, hs0, hsj, hap, ↓hone, ↓hfl, hdf, hki, lnA, List.length_append, Nat.mul_one, hknl, hWl, hWt, hkv, hek, hgb, hkB, hgl2, hLm, hf] <;> exact evT)))
              (refine Wp.vacs 1 ?_; (try simp only [List.replicate_succ, List.replicate_zero, List.cons_append, List.nil_append]))
              have hTm : ∀ p ∈ T, p.1 ≤ 0 ∨ x.fr < p.1 := fun p hp => hcm p (hT2.mem_iff.1 hp)
              have hgc2 := gS_cons (fr := Ln.fr) (to := Ln.to) (us := Ln.uses) (life := life) x xs T
              rw [hgT, hT1] at hgc2
              obtain ⟨f, hfe⟩ : ∃ f : Nat → Nat, f = fun j => if (T.getD j (0, 0)).1 ≤ x.fr ∧ (T.getD j (0, 0)).2 + x.uses ≤ life then gS Ln.fr Ln.to Ln.uses life xs (T.set j (x.to, (T.getD j (0, 0)).2 + x.uses)) else 0 := ⟨_, rfl⟩
              rw [← hfe] at hgc2
              have hfj := fun j => congrFun hfe j
              clear hfe
              have hsm2 := gS_small Ln.fr Ln.to Ln.uses life (ls := x :: xs) (s := s) (by omega) (by omega)
              rw [hgc2] at hsm2
              refine Wp.loop (fun (q : Nat × (Nat → List (Value × AV)) × (Nat × Kind) × Mem) => { t := [(0, .optr r vr 0 0), (1, .int i), (5, .optr B 2 0 0), (6, .int (sgN q.1 f : Nat)), (7, .optr (B + 1) 0 0 0), (68, .int k), (69, .int q.1)], m := Mm F ss.length q.2.1 G ++ (⟨2, .row 16 [.agg ((flS (s8 k T)).map AV.int)]⟩ :: ⟨0, .row 5 [lnA x]⟩ :: ⟨q.2.2.1.1, q.2.2.1.2⟩ :: q.2.2.2), n := 123 })
                (fun q => q.1 ≤ k ∧ q.2.1 i = L0 ∧ (∀ j, j < i → q.2.1 j = mp j) ∧ (∀ j, i + 1 ≤ j → j < ss.length → MoS life k (ss.drop j) (q.2.1 j))) (fun q => k - q.1) (0, mp, (0, .row 1 []), []) ?_ ?_ ?_
              · (refine Le.of ?_ ?_ rfl rfl <;> (try simp only [push_cast, seval, hgr, hgl, hgk, hgm, hsm, hB, hb0, hbj, hs0, hsj, hap, ↓hone, ↓hfl, hdf, hki, lnA, List.length_append, Nat.mul_one, hknl, hWl, hWt, hkv, hek, hgb, hkB, hgl2, hLm, hf]) <;> (try (with_reducible rfl)))
                all_goals rfl
              · exact ⟨Nat.zero_le _, hLm, fun _ _ => rfl, fun j hj hj2 => hmp j (by omega) hj2⟩
              · rintro ⟨j, mp1, ⟨v, kd⟩, J⟩ ⟨hj1, hj2, hj3, hj4⟩
                simp only at hj1 hj2 hj3 hj4
                repeat (first | apply Wp.seq | apply Wp.block | (apply Run.calm; exact rfl; (simp only [push_cast, seval, hgr, hgl, hgk, hgm, hsm, hB, hb0, hbj, hs0, hsj, hap, ↓hone, ↓hfl, hdf, hki, lnA, List.length_append, Nat.mul_one, hknl, hWl, hWt, hkv, hek, hgb, hkB, hgl2, hj2, hf] <;> exact evT); ((try simp only [push_cast, seval, hgr, hgl, hgk, hgm, hsm, hB, hb0, hbj, hs0, hsj, hap, ↓hone, ↓hfl, hdf, hki, lnA, List.length_append, Nat.mul_one, hknl, hWl, hWt, hkv, hek, hgb, hkB, hgl2, hj2, hf]) <;> exact sT)) | (apply Run.nil; dsimp only [sQ, tQ, bQ]) | (refine Wp.rn ?_) | (apply Wp.skip; dsimp only [sQ, tQ, bQ]) | (apply Wp.exit; dsimp only [sQ, tQ, bQ]; simp only [reduceIte]))
                (apply Wp.cond; (simp only [push_cast, seval, hgr, hgl, hgk, hgm, hsm, hB, hb0, hbj, hs0, hsj, hap, ↓hone, ↓hfl, hdf, hki, lnA, List.length_append, Nat.mul_one, hknl, hWl, hWt, hkv, hek, hgb, hkB, hgl2, hj2, hf] <;> exact evT))
                · intro hc
                  simp only [decide_eq_true_eq, Int.ofNat_lt] at hc
                  have hf1 : sgN (j + 1) f = sgN j f + f j := rfl
                  have hmn := sgN_mono (f := f) (show j + 1 ≤ k by omega)
                  have hfj1 := hfj j
                  have hg0 := @flS_get0 (s8 k T) j
                  have hg1 := @flS_get1 (s8 k T) j
                  rw [s8_get (by omega)] at hg0 hg1
                  have hpT : T.getD j (0, 0) ∈ T := memA (0, 0) (by omega)
                  have hpb := hTs _ hpT
                  have hpm := hTm _ hpT
                  obtain ⟨u, hu⟩ : ∃ u, (T.getD j (0, 0)).1 = u := ⟨_, rfl⟩
                  obtain ⟨w, hw⟩ : ∃ w, (T.getD j (0, 0)).2 = w := ⟨_, rfl⟩
                  obtain ⟨hpb1, hpb2⟩ := hpb
                  rw [hu] at hg0 hpb1 hpm
                  rw [hw] at hg1 hpb2
                  rw [hu, hw] at hfj1
                  have hd0 : ∀ d, ((flS (s8 k T)).map AV.int).getD (j * 2) d = .int u := fun d => by rw [getD_mapA (by omega) d 0, hg0]
                  have hd1 : ∀ d, ((flS (s8 k T)).map AV.int).getD (j * 2 + 1) d = .int w := fun d => by rw [getD_mapA (by omega) d 0, hg1]
                  by_cases e1 : 0 < u
                  · have d1 : decide (0 < u) = true := decide_eq_true e1
                    rw [if_neg (by omega)] at hfj1
                    repeat (first | apply Wp.seq | apply Wp.block | (apply Run.calm; exact rfl; (simp only [push_cast, seval, hgr, hgl, hgk, hgm, hsm, hB, hb0, hbj, hs0, hsj, hap, ↓hone, ↓hfl, hdf, hki, lnA, List.length_append, Nat.mul_one, hknl, hWl, hWt, hd0, hd1, d1, Bool.true_or] <;> exact evT); ((try simp only [push_cast, seval, hgr, hgl, hgk, hgm, hsm, hB, hb0, hbj, hs0, hsj, hap, ↓hone, ↓hfl, hdf, hki, lnA, List.length_append, Nat.mul_one, hknl, hWl, hWt, hd0, hd1, d1, Bool.true_or]) <;> exact sT)) | (apply Run.nil; dsimp only [sQ, tQ, bQ]) | (refine Wp.rn ?_) | (apply Wp.skip; dsimp only [sQ, tQ, bQ]) | (apply Wp.exit; dsimp only [sQ, tQ, bQ]; simp only [reduceIte]))
                    (refine Wp.rnD 19 ?_; apply exAb; (((repeat (apply Abn.next; (simp only [push_cast, seval, hgr, hgl, hgk, hgm, hsm, hB, hb0, hbj, hs0, hsj, hap, ↓hone, ↓hfl, hdf, hki, lnA, List.length_append, Nat.mul_one, hknl, hWl, hWt, hd0, hd1, d1, Bool.true_or] <;> exact evT); ((try simp only [push_cast, seval, hgr, hgl, hgk, hgm, hsm, hB, hb0, hbj, hs0, hsj, hap, ↓hone, ↓hfl, hdf, hki, lnA, List.length_append, Nat.mul_one, hknl, hWl, hWt, hd0, hd1, d1, Bool.true_or]) <;> exact sT)))); exact Abn.nil))
                    repeat (first | apply Wp.seq | apply Wp.block | (apply Run.next; (simp only [push_cast, seval, hgr, hgl, hgk, hgm, hsm, hB, hb0, hbj, hs0, hsj, hap, ↓hone, ↓hfl, hdf, hki, lnA, List.length_append, Nat.mul_one, hknl, hWl, hWt, hd0, hd1, d1, Bool.true_or] <;> exact evT); ((try simp only [push_cast, seval, hgr, hgl, hgk, hgm, hsm, hB, hb0, hbj, hs0, hsj, hap, ↓hone, ↓hfl, hdf, hki, lnA, List.length_append, Nat.mul_one, hknl, hWl, hWt, hd0, hd1, d1, Bool.true_or]) <;> exact sT)) | (apply Run.nil; dsimp only [sQ, tQ, bQ]) | (refine Wp.rn ?_) | (apply Wp.skip; dsimp only [sQ, tQ, bQ]) | (apply Wp.exit; dsimp only [sQ, tQ, bQ]; simp only [reduceIte]) | (apply Run.gtrue; (simp only [push_cast, seval, hgr, hgl, hgk, hgm, hsm, hB, hb0, hbj, hs0, hsj, hap, ↓hone, ↓hfl, hdf, hki, lnA, List.length_append, Nat.mul_one, hknl, hWl, hWt, hd0, hd1, d1, Bool.true_or] <;> exact evT); (simp only [push_cast, seval, hgr, hgl, hgk, hgm, hsm, hB, hb0, hbj, hs0, hsj, hap, ↓hone, ↓hfl, hdf, hki, lnA, List.length_append, Nat.mul_one, hknl, hWl, hWt, hd0, hd1, d1, Bool.true_or] <;> exact evT)) | (apply Run.gfalse (.bool false); (simp only [push_cast, seval, hgr, hgl, hgk, hgm, hsm, hB, hb0, hbj, hs0, hsj, hap, ↓hone, ↓hfl, hdf, hki, lnA, List.length_append, Nat.mul_one, hknl, hWl, hWt, hd0, hd1, d1, Bool.true_or] <;> exact evT); dsimp only [S.put, optG]) | (apply Wp.condT; (simp only [push_cast, seval, hgr, hgl, hgk, hgm, hsm, hB, hb0, hbj, hs0, hsj, hap, ↓hone, ↓hfl, hdf, hki, lnA, List.length_append, Nat.mul_one, hknl, hWl, hWt, hd0, hd1, d1, Bool.true_or] <;> exact evT)) | (apply Wp.condF; (simp only [push_cast, seval, hgr, hgl, hgk, hgm, hsm, hB, hb0, hbj, hs0, hsj, hap, ↓hone, ↓hfl, hdf, hki, lnA, List.length_append, Nat.mul_one, hknl, hWl, hWt, hd0, hd1, d1, Bool.true_or] <;> exact evT)))
                    refine ⟨(j + 1, mp1, (v, kd), J), ?_, ⟨by simp only; omega, hj2, hj3, hj4⟩, by simp only; omega⟩
                    simp only [hf1, hfj1, Nat.add_zero]
                    (refine Le.of ?_ ?_ rfl rfl <;> (try simp only [push_cast, seval, hgr, hgl, hgk, hgm, hsm, hB, hb0, hbj, hs0, hsj, hap, ↓hone, ↓hfl, hdf, hki, lnA, List.length_append, Nat.mul_one, hknl, hWl, hWt, hd0, hd1, d1, Bool.true_or]) <;> (try (with_reducible rfl)))
                  · have d1 : decide (0 < u) = false := decide_eq_false e1
                    by_cases e2 : life < w + x.uses
                    · have d2 : decide (life < w + x.uses) = true := decide_eq_true e2
                      rw [if_neg (by omega)] at hfj1
                      repeat (first | apply Wp.seq | apply Wp.block | (apply Run.calm; exact rfl; (simp only [push_cast, seval, hgr, hgl, hgk, hgm, hsm, hB, hb0, hbj, hs0, hsj, hap, ↓hone, ↓hfl, hdf, hki, lnA, List.length_append, Nat.mul_one, hknl, hWl, hWt, hd0, hd1, d1, d2, Bool.false_or] <;> exact evT); ((try simp only [push_cast, seval, hgr, hgl, hgk, hgm, hsm, hB, hb0, hbj, hs0, hsj, hap, ↓hone, ↓hfl, hdf, hki, lnA, List.length_append, Nat.mul_one, hknl, hWl, hWt, hd0, hd1, d1, d2, Bool.false_or]) <;> exact sT)) | (apply Run.nil; dsimp only [sQ, tQ, bQ]) | (refine Wp.rn ?_) | (apply Wp.skip; dsimp only [sQ, tQ, bQ]) | (apply Wp.exit; dsimp only [sQ, tQ, bQ]; simp only [reduceIte]))
                      (refine Wp.rnD 19 ?_; apply exAb; (((repeat (apply Abn.next; (simp only [push_cast, seval, hgr, hgl, hgk, hgm, hsm, hB, hb0, hbj, hs0, hsj, hap, ↓hone, ↓hfl, hdf, hki, lnA, List.length_append, Nat.mul_one, hknl, hWl, hWt, hd0, hd1, d1, d2, Bool.false_or] <;> exact evT); ((try simp only [push_cast, seval, hgr, hgl, hgk, hgm, hsm, hB, hb0, hbj, hs0, hsj, hap, ↓hone, ↓hfl, hdf, hki, lnA, List.length_append, Nat.mul_one, hknl, hWl, hWt, hd0, hd1, d1, d2, Bool.false_or]) <;> exact sT)))); exact Abn.nil))
                      repeat (first | apply Wp.seq | apply Wp.block | (apply Run.next; (simp only [push_cast, seval, hgr, hgl, hgk, hgm, hsm, hB, hb0, hbj, hs0, hsj, hap, ↓hone, ↓hfl, hdf, hki, lnA, List.length_append, Nat.mul_one, hknl, hWl, hWt, hd0, hd1, d1, d2, Bool.false_or] <;> exact evT); ((try simp only [push_cast, seval, hgr, hgl, hgk, hgm, hsm, hB, hb0, hbj, hs0, hsj, hap, ↓hone, ↓hfl, hdf, hki, lnA, List.length_append, Nat.mul_one, hknl, hWl, hWt, hd0, hd1, d1, d2, Bool.false_or]) <;> exact sT)) | (apply Run.nil; dsimp only [sQ, tQ, bQ]) | (refine Wp.rn ?_) | (apply Wp.skip; dsimp only [sQ, tQ, bQ]) | (apply Wp.exit; dsimp only [sQ, tQ, bQ]; simp only [reduceIte]) | (apply Run.gtrue; (simp only [push_cast, seval, hgr, hgl, hgk, hgm, hsm, hB, hb0, hbj, hs0, hsj, hap, ↓hone, ↓hfl, hdf, hki, lnA, List.length_append, Nat.mul_one, hknl, hWl, hWt, hd0, hd1, d1, d2, Bool.false_or] <;> exact evT); (simp only [push_cast, seval, hgr, hgl, hgk, hgm, hsm, hB, hb0, hbj, hs0, hsj, hap, ↓hone, ↓hfl, hdf, hki, lnA, List.length_append, Nat.mul_one, hknl, hWl, hWt, hd0, hd1, d1, d2, Bool.false_or] <;> exact evT)) | (apply Run.gfalse (.bool false); (simp only [push_cast, seval, hgr, hgl, hgk, hgm, hsm, hB, hb0, hbj, hs0, hsj, hap, ↓hone, ↓hfl, hdf, hki, lnA, List.length_append, Nat.mul_one, hknl, hWl, hWt, hd0, hd1, d1, d2, Bool.false_or] <;> exact evT); dsimp only [S.put, optG]) | (apply Wp.condT; (simp only [push_cast, seval, hgr, hgl, hgk, hgm, hsm, hB, hb0, hbj, hs0, hsj, hap, ↓hone, ↓hfl, hdf, hki, lnA, List.length_append, Nat.mul_one, hknl, hWl, hWt, hd0, hd1, d1, d2, Bool.false_or] <;> exact evT)) | (apply Wp.condF; (simp only [push_cast, seval, hgr, hgl, hgk, hgm, hsm, hB, hb0, hbj, hs0, hsj, hap, ↓hone, ↓hfl, hdf, hki, lnA, List.length_append, Nat.mul_one, hknl, hWl, hWt, hd0, hd1, d1, d2, Bool.false_or] <;> exact evT)))
                      refine ⟨(j + 1, mp1, (v, kd), J), ?_, ⟨by simp only; omega, hj2, hj3, hj4⟩, by simp only; omega⟩
                      simp only [hf1, hfj1, Nat.add_zero]
                      (refine Le.of ?_ ?_ rfl rfl <;> (try simp only [push_cast, seval, hgr, hgl, hgk, hgm, hsm, hB, hb0, hbj, hs0, hsj, hap, ↓hone, ↓hfl, hdf, hki, lnA, List.length_append, Nat.mul_one, hknl, hWl, hWt, hd0, hd1, d1, d2, Bool.false_or]) <;> (try (with_reducible rfl)))
                    · have d2 : decide (life < w + x.uses) = false := decide_eq_false e2
                      rw [if_pos (by omega)] at hfj1
                      repeat (first | apply Wp.seq | apply Wp.block | (apply Run.calm; exact rfl; (simp only [push_cast, seval, hgr, hgl, hgk, hgm, hsm, hB, hb0, hbj, hs0, hsj, hap, ↓hone, ↓hfl, hdf, hki, lnA, List.length_append, Nat.mul_one, hknl, hWl, hWt, hd0, hd1, d1, d2, Bool.false_or] <;> exact evT); ((try simp only [push_cast, seval, hgr, hgl, hgk, hgm, hsm, hB, hb0, hbj, hs0, hsj, hap, ↓hone, ↓hfl, hdf, hki, lnA, List.length_append, Nat.mul_one, hknl, hWl, hWt, hd0, hd1, d1, d2, Bool.false_or]) <;> exact sT)) | (apply Run.nil; dsimp only [sQ, tQ, bQ]) | (refine Wp.rn ?_) | (apply Wp.skip; dsimp only [sQ, tQ, bQ]) | (apply Wp.exit; dsimp only [sQ, tQ, bQ]; simp only [reduceIte]))
                      (refine Wp.rnD 19 ?_; apply exAb; (((repeat (apply Abn.next; (simp only [push_cast, seval, hgr, hgl, hgk, hgm, hsm, hB, hb0, hbj, hs0, hsj, hap, ↓hone, ↓hfl, hdf, hki, lnA, List.length_append, Nat.mul_one, hknl, hWl, hWt, hd0, hd1, d1, d2, Bool.false_or] <;> exact evT); ((try simp only [push_cast, seval, hgr, hgl, hgk, hgm, hsm, hB, hb0, hbj, hs0, hsj, hap, ↓hone, ↓hfl, hdf, hki, lnA, List.length_append, Nat.mul_one, hknl, hWl, hWt, hd0, hd1, d1, d2, Bool.false_or]) <;> exact sT)))); exact Abn.nil))
                      repeat (first | apply Wp.seq | apply Wp.block | (apply Run.calm; exact rfl; (simp only [push_cast, seval, hgr, hgl, hgk, hgm, hsm, hB, hb0, hbj, hs0, hsj, hap, ↓hone, ↓hfl, hdf, hki, lnA, List.length_append, Nat.mul_one, hknl, hWl, hWt, hd0, hd1, d1, d2, Bool.false_or] <;> exact evT); ((try simp only [push_cast, seval, hgr, hgl, hgk, hgm, hsm, hB, hb0, hbj, hs0, hsj, hap, ↓hone, ↓hfl, hdf, hki, lnA, List.length_append, Nat.mul_one, hknl, hWl, hWt, hd0, hd1, d1, d2, Bool.false_or]) <;> exact sT)) | (apply Run.nil; dsimp only [sQ, tQ, bQ]) | (refine Wp.rn ?_) | (apply Wp.skip; dsimp only [sQ, tQ, bQ]) | (apply Wp.exit; dsimp only [sQ, tQ, bQ]; simp only [reduceIte]))
                      (apply Wp.cond; (simp only [push_cast, seval, hgr, hgl, hgk, hgm, hsm, hB, hb0, hbj, hs0, hsj, hap, ↓hone, ↓hfl, hdf, hki, lnA, List.length_append, Nat.mul_one, hknl, hWl, hWt, hd0, hd1, d1, d2, Bool.false_or] <;> exact evT))
                      · intro h
                        cases h
                      · intro _
                        have hnx : List.map AV.int (List.take (j * 2) (flS (s8 k T))) ++ [AV.int x.to, AV.val (Value.int IntKind.i64 (w + x.uses))] ++ List.map AV.int (List.drop (j * 2 + 2) (flS (s8 k T))) = List.map AV.int (flS (s8 k (T.set j (x.to, w + x.uses)))) := by
                          rw [← s8_set (by omega), ← flS_set x.to (w + x.uses) (by omega)]
                          simp
                        have hTl : (T.set j (x.to, w + x.uses)).length = k := by rw [List.length_set, hT1]
                        have hNl := flS_len (s8 k (T.set j (x.to, w + x.uses)))
                        rw [s8_len hTl (by omega)] at hNl
                        have hNt : (flS (s8 k (T.set j (x.to, w + x.uses)))).take 16 = flS (s8 k (T.set j (x.to, w + x.uses))) := List.take_of_length_le (by omega)
                        have hcall := ih (i + 1) ((i : Int) + 1) (T.set j (x.to, w + x.uses)) (G ++ (⟨2, .row 16 [.agg ((flS (s8 k T)).map AV.int)]⟩ :: ⟨0, .row 5 [lnA x]⟩ :: ⟨v + 1, .row 16 [.agg ((flS (s8 k (T.set j (x.to, w + x.uses)))).map AV.int)]⟩ :: J)) mp1 hxs' (by simp at hi; omega) (by omega) hTl (fun p hp => by
                          rcases List.mem_or_eq_of_mem_set hp with q | q
                          · exact hTs p q
                          · subst q; exact ⟨by simp only; omega, by simp only; omega⟩) hj4
                        rw [← Mm_app] at hcall
                        generalize hgA : gS Ln.fr Ln.to Ln.uses life xs (T.set j (x.to, w + x.uses)) = gA at *
                        repeat (first | apply Wp.seq | apply Wp.block | (apply Run.calm; exact rfl; (simp only [push_cast, seval, hgr, hgl, hgk, hgm, hsm, hB, hb0, hbj, hs0, hsj, hap, ↓hone, ↓hfl, hdf, hki, lnA, List.length_append, Nat.mul_one, hknl, hWl, hWt, hd0, hd1, d1, d2, Bool.false_or, hnx, hNl, hNt] <;> exact evT); ((try simp only [push_cast, seval, hgr, hgl, hgk, hgm, hsm, hB, hb0, hbj, hs0, hsj, hap, ↓hone, ↓hfl, hdf, hki, lnA, List.length_append, Nat.mul_one, hknl, hWl, hWt, hd0, hd1, d1, d2, Bool.false_or, hnx, hNl, hNt]) <;> exact sT)) | (apply Run.nil; dsimp only [sQ, tQ, bQ]) | (refine Wp.rn ?_) | (apply Wp.skip; dsimp only [sQ, tQ, bQ]) | (apply Wp.exit; dsimp only [sQ, tQ, bQ]; simp only [reduceIte]))
                        (apply Run.alcAt (B + 2); (simp only [push_cast, seval, hgr, hgl, hgk, hgm, hsm, hB, hb0, hbj, hs0, hsj, hap, ↓hone, ↓hfl, hdf, hki, lnA, List.length_append, Nat.mul_one, hknl, hWl, hWt, hd0, hd1, d1, d2, Bool.false_or, hnx, hNl, hNt] <;> exact evT); (focus ((try simp only [push_cast, seval, hgr, hgl, hgk, hgm, hsm, hB, hb0, hbj, hs0, hsj, hap, ↓hone, ↓hfl, hdf, hki, lnA, List.length_append, Nat.mul_one, hknl, hWl, hWt, hd0, hd1, d1, d2, Bool.false_or, hnx, hNl, hNt]) <;> exact sT)); (simp only [push_cast, seval, hgr, hgl, hgk, hgm, hsm, hB, hb0, hbj, hs0, hsj, hap, ↓hone, ↓hfl, hdf, hki, lnA, List.length_append, Nat.mul_one, hknl, hWl, hWt, hd0, hd1, d1, d2, Bool.false_or, hnx, hNl, hNt] <;> exact evT); (try simp only [push_cast, seval, hgr, hgl, hgk, hgm, hsm, hB, hb0, hbj, hs0, hsj, hap, ↓hone, ↓hfl, hdf, hki, lnA, List.length_append, Nat.mul_one, hknl, hWl, hWt, hd0, hd1, d1, d2, Bool.false_or, hnx, hNl, hNt]))
                        repeat (first | apply Wp.seq | apply Wp.block | (apply Run.next; (simp only [push_cast, seval, hgr, hgl, hgk, hgm, hsm, hB, hb0, hbj, hs0, hsj, hap, ↓hone, ↓hfl, hdf, hki, lnA, List.length_append, Nat.mul_one, hknl, hWl, hWt, hd0, hd1, d1, d2, Bool.false_or, hnx, hNl, hNt] <;> exact evT); ((try simp only [push_cast, seval, hgr, hgl, hgk, hgm, hsm, hB, hb0, hbj, hs0, hsj, hap, ↓hone, ↓hfl, hdf, hki, lnA, List.length_append, Nat.mul_one, hknl, hWl, hWt, hd0, hd1, d1, d2, Bool.false_or, hnx, hNl, hNt]) <;> exact sT)) | (apply Run.nil; dsimp only [sQ, tQ, bQ]) | (refine Wp.rn ?_) | (apply Wp.skip; dsimp only [sQ, tQ, bQ]) | (apply Wp.exit; dsimp only [sQ, tQ, bQ]; simp only [reduceIte]))
                        (apply Wp.runE 12 12 mixed; (dsimp only [List.map] <;> exact rfl); exact rfl; kernel_rfl; ((repeat (apply Abe.next; exact rfl; (simp only [push_cast, seval, hgr, hgl, hgk, hgm, hsm, hB, hb0, hbj, hs0, hsj, hap, ↓hone, ↓hfl, hdf, hki, lnA, List.length_append, Nat.mul_one, hknl, hWl, hWt, hd0, hd1, d1, d2, Bool.false_or, hnx, hNl, hNt] <;> exact evT); ((try simp only [push_cast, seval, hgr, hgl, hgk, hgm, hsm, hB, hb0, hbj, hs0, hsj, hap, ↓hone, ↓hfl, hdf, hki, lnA, List.length_append, Nat.mul_one, hknl, hWl, hWt, hd0, hd1, d1, d2, Bool.false_or, hnx, hNl, hNt]) <;> exact sT))); (apply Abe.eff; exact rfl; (simp only [push_cast, seval, hgr, hgl, hgk, hgm, hsm, hB, hb0, hbj, hs0, hsj, hap, ↓hone, ↓hfl, hdf, hki, lnA, List.length_append, Nat.mul_one, hknl, hWl, hWt, hd0, hd1, d1, d2, Bool.false_or, hnx, hNl, hNt] <;> exact evT); ((try simp only [push_cast, seval, hgr, hgl, hgk, hgm, hsm, hB, hb0, hbj, hs0, hsj, hap, ↓hone, ↓hfl, hdf, hki, lnA, List.length_append, Nat.mul_one, hknl, hWl, hWt, hd0, hd1, d1, d2, Bool.false_or, hnx, hNl, hNt]) <;> exact sT); (try dsimp only [putA])); exact Abe.nil))
                        repeat (first | apply Wp.seq | apply Wp.block | (apply Run.next; (simp only [push_cast, seval, hgr, hgl, hgk, hgm, hsm, hB, hb0, hbj, hs0, hsj, hap, ↓hone, ↓hfl, hdf, hki, lnA, List.length_append, Nat.mul_one, hknl, hWl, hWt, hd0, hd1, d1, d2, Bool.false_or, hnx, hNl, hNt] <;> exact evT); ((try simp only [push_cast, seval, hgr, hgl, hgk, hgm, hsm, hB, hb0, hbj, hs0, hsj, hap, ↓hone, ↓hfl, hdf, hki, lnA, List.length_append, Nat.mul_one, hknl, hWl, hWt, hd0, hd1, d1, d2, Bool.false_or, hnx, hNl, hNt]) <;> exact sT)) | (apply Run.nil; dsimp only [sQ, tQ, bQ]) | (refine Wp.rn ?_) | (apply Wp.skip; dsimp only [sQ, tQ, bQ]) | (apply Wp.exit; dsimp only [sQ, tQ, bQ]; simp only [reduceIte]))
                        apply Run.spec (he := Enters.of Try.func80 rfl rfl) (hc := hcall)
                        · exact rfl
                        · exact rfl
                        · (simp only [push_cast, seval, hgr, hgl, hgk, hgm, hsm, hB, hb0, hbj, hs0, hsj, hap, ↓hone, ↓hfl, hdf, hki, lnA, List.length_append, Nat.mul_one, hknl, hWl, hWt, hd0, hd1, d1, d2, Bool.false_or, hnx, hNl, hNt] <;> exact evT)
                        · rintro _ m2 ⟨rfl, mp2, J2, g1, g2, hm2⟩
                          rw [← Mm_app, List.append_assoc] at hm2
                          simp only [List.cons_append, List.nil_append] at hm2
                          subst hm2
                          dsimp only [S.put, optG]
                          have hmin : min ((sgN (j + 1) f : Nat) : Int) 1099511627776 = ((sgN (j + 1) f : Nat) : Int) := by omega
                          have hcast : ((sgN j f : Int) + (gA : Int)) = ((sgN (j + 1) f : Nat) : Int) := by rw [hf1, hfj1]; omega
                          repeat (first | apply Wp.seq | apply Wp.block | (apply Run.next; (simp only [push_cast, seval, hgr, hgl, hgk, hgm, hsm, hB, hb0, hbj, hs0, hsj, hap, ↓hone, ↓hfl, hdf, hki, lnA, List.length_append, Nat.mul_one, hknl, hWl, hWt, hd0, hd1, d1, d2, Bool.false_or, hnx, hNl, hNt, hcast, hmin] <;> exact evT); ((try simp only [push_cast, seval, hgr, hgl, hgk, hgm, hsm, hB, hb0, hbj, hs0, hsj, hap, ↓hone, ↓hfl, hdf, hki, lnA, List.length_append, Nat.mul_one, hknl, hWl, hWt, hd0, hd1, d1, d2, Bool.false_or, hnx, hNl, hNt, hcast, hmin]) <;> exact sT)) | (apply Run.nil; dsimp only [sQ, tQ, bQ]) | (refine Wp.rn ?_) | (apply Wp.skip; dsimp only [sQ, tQ, bQ]) | (apply Wp.exit; dsimp only [sQ, tQ, bQ]; simp only [reduceIte]))
                          refine ⟨(j + 1, mp2, (v + 1, .row 16 [.agg ((flS (s8 k (T.set j (x.to, w + x.uses)))).map AV.int)]), J ++ J2), ?_, ⟨by simp only; omega, by simp only; rw [g1 i (by omega)]; exact hj2, fun j' hj' => by simp only; rw [g1 j' (by omega)]; exact hj3 j' hj', g2⟩, by simp only; omega⟩
                          (refine Le.of ?_ ?_ rfl rfl <;> (try simp only [push_cast, seval, hgr, hgl, hgk, hgm, hsm, hB, hb0, hbj, hs0, hsj, hap, ↓hone, ↓hfl, hdf, hki, lnA, List.length_append, Nat.mul_one, hknl, hWl, hWt, hd0, hd1, d1, d2, Bool.false_or, hnx, hNl, hNt, hcast, hmin]) <;> (try (with_reducible rfl)))
                · intro hc
                  simp only [decide_eq_false_iff_not, Int.ofNat_lt] at hc
                  obtain rfl : j = k := by omega
                  rw [← hgc2]
                  have hus := fun L => upM_same mp1 i L
                  generalize hL1 : updL L0 (kyV (flS (s8 j T))) (.int (gS Ln.fr Ln.to Ln.uses life (x :: xs) s : Nat)) = L1 at hup
                  repeat (first | apply Wp.seq | apply Wp.block | (apply Run.next; (simp only [push_cast, seval, hgr, hgl, hgk, hgm, hsm, hB, hb0, hbj, hs0, hsj, hap, ↓hone, ↓hfl, hdf, hki, lnA, List.length_append, Nat.mul_one, hknl, hWl, hWt, hkv, hek, hgb, hkB, hgl2, hj2, hf, hL1, hus] <;> exact evT); ((try simp only [push_cast, seval, hgr, hgl, hgk, hgm, hsm, hB, hb0, hbj, hs0, hsj, hap, ↓hone, ↓hfl, hdf, hki, lnA, List.length_append, Nat.mul_one, hknl, hWl, hWt, hkv, hek, hgb, hkB, hgl2, hj2, hf, hL1, hus]) <;> exact sT)) | (apply Run.nil; dsimp only [sQ, tQ, bQ]) | (refine Wp.rn ?_) | (apply Wp.skip; dsimp only [sQ, tQ, bQ]) | (apply Wp.exit; dsimp only [sQ, tQ, bQ]; simp only [reduceIte]) | (apply Run.gtrue; (simp only [push_cast, seval, hgr, hgl, hgk, hgm, hsm, hB, hb0, hbj, hs0, hsj, hap, ↓hone, ↓hfl, hdf, hki, lnA, List.length_append, Nat.mul_one, hknl, hWl, hWt, hkv, hek, hgb, hkB, hgl2, hj2, hf, hL1, hus] <;> exact evT); (simp only [push_cast, seval, hgr, hgl, hgk, hgm, hsm, hB, hb0, hbj, hs0, hsj, hap, ↓hone, ↓hfl, hdf, hki, lnA, List.length_append, Nat.mul_one, hknl, hWl, hWt, hkv, hek, hgb, hkB, hgl2, hj2, hf, hL1, hus] <;> exact evT)) | (apply Run.gfalse (.bool false); (simp only [push_cast, seval, hgr, hgl, hgk, hgm, hsm, hB, hb0, hbj, hs0, hsj, hap, ↓hone, ↓hfl, hdf, hki, lnA, List.length_append, Nat.mul_one, hknl, hWl, hWt, hkv, hek, hgb, hkB, hgl2, hj2, hf, hL1, hus] <;> exact evT); dsimp only [S.put, optG]) | (apply Wp.condT; (simp only [push_cast, seval, hgr, hgl, hgk, hgm, hsm, hB, hb0, hbj, hs0, hsj, hap, ↓hone, ↓hfl, hdf, hki, lnA, List.length_append, Nat.mul_one, hknl, hWl, hWt, hkv, hek, hgb, hkB, hgl2, hj2, hf, hL1, hus] <;> exact evT)) | (apply Wp.condF; (simp only [push_cast, seval, hgr, hgl, hgk, hgm, hsm, hB, hb0, hbj, hs0, hsj, hap, ↓hone, ↓hfl, hdf, hki, lnA, List.length_append, Nat.mul_one, hknl, hWl, hWt, hkv, hek, hgb, hkB, hgl2, hj2, hf, hL1, hus] <;> exact evT)))
                  (apply Wp.runE 9 9 mixed; (dsimp only [List.map] <;> exact rfl); exact rfl; kernel_rfl; ((repeat (apply Abe.next; exact rfl; (simp only [push_cast, seval, hgr, hgl, hgk, hgm, hsm, hB, hb0, hbj, hs0, hsj, hap, ↓hone, ↓hfl, hdf, hki, lnA, List.length_append, Nat.mul_one, hknl, hWl, hWt, hkv, hek, hgb, hkB, hgl2, hj2, hf, hL1, hus] <;> exact evT); ((try simp only [push_cast, seval, hgr, hgl, hgk, hgm, hsm, hB, hb0, hbj, hs0, hsj, hap, ↓hone, ↓hfl, hdf, hki, lnA, List.length_append, Nat.mul_one, hknl, hWl, hWt, hkv, hek, hgb, hkB, hgl2, hj2, hf, hL1, hus]) <;> exact sT))); (apply Abe.eff; exact rfl; (simp only [push_cast, seval, hgr, hgl, hgk, hgm, hsm, hB, hb0, hbj, hs0, hsj, hap, ↓hone, ↓hfl, hdf, hki, lnA, List.length_append, Nat.mul_one, hknl, hWl, hWt, hkv, hek, hgb, hkB, hgl2, hj2, hf, hL1, hus] <;> exact evT); ((try simp only [push_cast, seval, hgr, hgl, hgk, hgm, hsm, hB, hb0, hbj, hs0, hsj, hap, ↓hone, ↓hfl, hdf, hki, lnA, List.length_append, Nat.mul_one, hknl, hWl, hWt, hkv, hek, hgb, hkB, hgl2, hj2, hf, hL1, hus]) <;> exact sT); (try dsimp only [putA])); exact Abe.nil))
                  repeat (first | apply Wp.seq | apply Wp.block | (apply Run.next; (simp only [push_cast, seval, hgr, hgl, hgk, hgm, hsm, hB, hb0, hbj, hs0, hsj, hap, ↓hone, ↓hfl, hdf, hki, lnA, List.length_append, Nat.mul_one, hknl, hWl, hWt, hkv, hek, hgb, hkB, hgl2, hj2, hf, hL1, hus] <;> exact evT); ((try simp only [push_cast, seval, hgr, hgl, hgk, hgm, hsm, hB, hb0, hbj, hs0, hsj, hap, ↓hone, ↓hfl, hdf, hki, lnA, List.length_append, Nat.mul_one, hknl, hWl, hWt, hkv, hek, hgb, hkB, hgl2, hj2, hf, hL1, hus]) <;> exact sT)) | (apply Run.nil; dsimp only [sQ, tQ, bQ]) | (refine Wp.rn ?_) | (apply Wp.skip; dsimp only [sQ, tQ, bQ]) | (apply Wp.exit; dsimp only [sQ, tQ, bQ]; simp only [reduceIte]) | (apply Run.gtrue; (simp only [push_cast, seval, hgr, hgl, hgk, hgm, hsm, hB, hb0, hbj, hs0, hsj, hap, ↓hone, ↓hfl, hdf, hki, lnA, List.length_append, Nat.mul_one, hknl, hWl, hWt, hkv, hek, hgb, hkB, hgl2, hj2, hf, hL1, hus] <;> exact evT); (simp only [push_cast, seval, hgr, hgl, hgk, hgm, hsm, hB, hb0, hbj, hs0, hsj, hap, ↓hone, ↓hfl, hdf, hki, lnA, List.length_append, Nat.mul_one, hknl, hWl, hWt, hkv, hek, hgb, hkB, hgl2, hj2, hf, hL1, hus] <;> exact evT)) | (apply Run.gfalse (.bool false); (simp only [push_cast, seval, hgr, hgl, hgk, hgm, hsm, hB, hb0, hbj, hs0, hsj, hap, ↓hone, ↓hfl, hdf, hki, lnA, List.length_append, Nat.mul_one, hknl, hWl, hWt, hkv, hek, hgb, hkB, hgl2, hj2, hf, hL1, hus] <;> exact evT); dsimp only [S.put, optG]) | (apply Wp.condT; (simp only [push_cast, seval, hgr, hgl, hgk, hgm, hsm, hB, hb0, hbj, hs0, hsj, hap, ↓hone, ↓hfl, hdf, hki, lnA, List.length_append, Nat.mul_one, hknl, hWl, hWt, hkv, hek, hgb, hkB, hgl2, hj2, hf, hL1, hus] <;> exact evT)) | (apply Wp.condF; (simp only [push_cast, seval, hgr, hgl, hgk, hgm, hsm, hB, hb0, hbj, hs0, hsj, hap, ↓hone, ↓hfl, hdf, hki, lnA, List.length_append, Nat.mul_one, hknl, hWl, hWt, hkv, hek, hgb, hkB, hgl2, hj2, hf, hL1, hus] <;> exact evT)))
                  (apply Wp.ret; (try dsimp only [sQ, tQ, bQ]); apply leaveA; exact rfl; (simp only [push_cast, seval, hgr, hgl, hgk, hgm, hsm, hB, hb0, hbj, hs0, hsj, hap, ↓hone, ↓hfl, hdf, hki, lnA, List.length_append, Nat.mul_one, hknl, hWl, hWt, hkv, hek, hgb, hkB, hgl2, hj2, hf, hL1, hus] <;> exact evT); (focus (first | (simp only [push_cast, seval, hgr, hgl, hgk, hgm, hsm, hB, hb0, hbj, hs0, hsj, hap, ↓hone, ↓hfl, hdf, hki, lnA, List.length_append, Nat.mul_one, hknl, hWl, hWt, hkv, hek, hgb, hkB, hgl2, hj2, hf, hL1, hus]; done) | trivial | (simp only [push_cast, seval, hgr, hgl, hgk, hgm, hsm, hB, hb0, hbj, hs0, hsj, hap, ↓hone, ↓hfl, hdf, hki, lnA, List.length_append, Nat.mul_one, hknl, hWl, hWt, hkv, hek, hgb, hkB, hgl2, hj2, hf, hL1, hus]; trivial) | (simp; done))); (try simp only [push_cast, seval, hgr, hgl, hgk, hgm, hsm, hB, hb0, hbj, hs0, hsj, hap, ↓hone, ↓hfl, hdf, hki, lnA, List.length_append, Nat.mul_one, hknl, hWl, hWt, hkv, hek, hgb, hkB, hgl2, hj2, hf, hL1, hus]))
                  refine ⟨upM mp1 i L1, _, fun j' hj' => by rw [upM_ne mp1 L1 (by omega)]; exact hj3 j' hj', fun j' h1 h2 => ?_, rfl⟩
                  by_cases hji : j' = i
                  · subst hji
                    rw [hus L1, hxs]
                    exact hup
                  · rw [upM_ne mp1 L1 hji]; exact hj4 j' (by omega) h2
end Go.Proofs.Try
