/- A part of the proof of StorePlans: contracts of functions, with plain laws that they need. -/
import Derived.Test.YtljchlkmalidnaaVgWd
import Derived.Test.YtljchlkmalidnaaVgNl
import Derived.Test.YtljchlkmalidnaaVgVg
import Derived.Test.YtljchlkmalidnaaVgEa
import Derived.Test.YtljchlkmalidnaaVgRc
import Derived.Test.YtljchlkmalidnaaVgYHJ
set_option linter.all false
set_option maxHeartbeats 8000000
namespace Go.Proofs.Try
open Go.Vg

/-! stores that the statements do not try -/
theorem any_yes {n i : Nat} {p : Nat → Bool} (h : i < n) (hp : p i = true) : (List.range n).any p = true := List.any_eq_true.2 ⟨i, List.mem_range.2 h, hp⟩
theorem any_no {n : Nat} {p : Nat → Bool} (h : ∀ i, i < n → p i = false) : (List.range n).any p = false := List.any_eq_false.2 fun i hi => by rw [h i (List.mem_range.1 hi)]; simp
def lgK (ks : List St) (i : Nat) : Bool := decide (i < 20) && (decide (4 < (ks.getD i st0).items) && decide ((ks.getD i st0).items ≤ 8))
def lgS (ks : List St) (ls : List Ln) : Bool := (decide (6 < (ls.length : Int)) && decide ((ls.length : Int) ≤ 20)) || (List.range ks.length).any (lgK ks)
theorem large_pure (ks : List St) (ls : List Ln) (hk : ks.length ≤ 9223372036854775807) (hl : ls.length ≤ 9223372036854775807) : Pure Try.prog 15 [storA ks ls] (.bool (lgS ks ls)) := by
  unfold lgS
  by_cases h1 : 6 < (ls.length : Int) ∧ (ls.length : Int) ≤ 20
  · have e1 : decide (6 < (ls.length : Int)) = true := decide_eq_true h1.1
    have e2 : decide ((ls.length : Int) ≤ 20) = true := decide_eq_true h1.2
    (refine Spec.bd 0 Try.func15 Try.results15 Try.ntmps15 ?_; simp only [entry, zipArgs, Nat.reduceAdd])
    (refine x_gg (zc @e1 @e2) ?_)
    (first | exact x_ret (zc @e1 @e2) | refine x_retZ (zc @e1 @e2) ?_)
  · have e1 : (decide (6 < (ls.length : Int)) && decide ((ls.length : Int) ≤ 20)) = false := by
      rw [← Bool.not_eq_true, Bool.and_eq_true, decide_eq_true_eq, decide_eq_true_eq]; exact h1
    rw [e1, Bool.false_or]
    have hyes := fun i (h : i < ks.length) => any_yes (p := lgK ks) h
    have hno := any_no (n := ks.length) (p := lgK ks)
    have hlk : ∀ i, lgK ks i = (decide (i < 20) && (decide (4 < (ks.getD i st0).items) && decide ((ks.getD i st0).items ≤ 8))) := fun _ => rfl
    generalize (List.range ks.length).any (lgK ks) = g at hyes hno
    generalize lgK ks = p at hlk hyes hno
    (refine Spec.bd 0 Try.func15 Try.results15 Try.ntmps15 ?_; simp only [entry, zipArgs, Nat.reduceAdd])
    (refine x_gg @e1 ?_)
    refine Wp.loop (fun (k : Nat) => { t := [(1, .optr 0 0 0 0), (3, .int k)], m := [⟨0, .row 2 [storA ks ls]⟩], n := 41 }) (fun k => k ≤ ks.length ∧ k ≤ 20 ∧ ∀ i, i < k → p i = false) (fun k => ks.length - k) 0 ?_ ?_ ?_
    · (refine Le.of ?_ ?_ rfl rfl <;> (try simp only [push_cast, seval, e1]) <;> (try (with_reducible rfl)))
    · simp
    · rintro k ⟨hk1, hk3, hk2⟩
      have hye := hyes k
      have hlk1 := hlk k
      (refine x_go @e1 ?_)
      (apply Wp.cond; (exact x_ev @e1))
      · intro hc
        simp only [Bool.and_eq_true, decide_eq_true_eq, Int.ofNat_lt] at hc
        specialize hye hc.1
        rw [decide_eq_true (show k < 20 by omega), Bool.true_and] at hlk1
        generalize hy : ks.getD k st0 = y at hlk1
        (refine x_go (zc @e1 @hy) ?_)
        (apply Wp.cond; (exact x_ev (zc @e1 @hy)))
        · intro h2
          have := hye (by rw [hlk1]; exact h2)
          subst this
          (refine x_go (zc @e1 @hy) ?_)
          (first | exact x_ret (zc @e1 @hy) | refine x_retZ (zc @e1 @hy) ?_)
        · intro h2
          (refine x_go (zc @e1 @hy) ?_)
          refine ⟨k + 1, ?_, ⟨by omega, by omega, fun i hi => ?_⟩, by omega⟩
          · (refine Le.of ?_ ?_ rfl rfl <;> (try simp only [push_cast, seval, e1, hy]) <;> (try (with_reducible rfl)))
          · by_cases hik : i = k
            · rw [hik, hlk1]; exact h2
            · exact hk2 i (by omega)
      · intro hc
        have hall : ∀ i, i < ks.length → p i = false := fun i hi => by
          by_cases hik : i < k
          · exact hk2 i hik
          · simp only [Bool.and_eq_false_iff, decide_eq_false_iff_not] at hc
            rw [hlk i, decide_eq_false (show ¬ i < 20 by omega)]; rfl
        have := hno hall
        subst this
        (refine x_go @e1 ?_)
        (first | exact x_ret @e1 | refine x_retZ @e1 ?_)
end Go.Proofs.Try
set_option maxHeartbeats 8000000
namespace Go.Proofs.Try
open Go.Vg

/-! Peak, Need and Buy -/
end Go.Proofs.Try
set_option maxHeartbeats 8000000
namespace Go.Proofs.Try
open Go.Vg

/-! what Plan does for each kind -/
abbrev refS (ks : List St) (ls : List Ln) : AV := .ref [.lst 2 (ks.map stA), .lst 5 (ls.map lnA)] 0
def srK (ks : List St) (ls : List Ln) (k : Nat) : Option (List Int) := srch (fun _ => (ks.getD k st0).items.toNat) (okK ls (ks.getD k st0).life (loanP ls (k : Int) ls.length)) (loanP ls (k : Int) ls.length).length []
theorem planDo_spec {ks : List St} {ls : List Ln} (hv : SV ks ls) {k : Nat} (hk : k < ks.length) {F : Mem} {N : Nat} (hF : F.length = N) (e0 e4 : Ent) :
    Go.Vg.Spec Try.prog 56 [.optr (N + 3) 1 0 0, .int k, refS ks ls] (F ++ blk N ks ls e0 e4 (ks.getD k st0).life (loanP ls (k : Int) ls.length) 0 [] (List.replicate (ks.getD k st0).items.toNat 0) (T0 (ks.getD k st0).items.toNat) [])
      (FsQ F [] N ks ls e0 e4 (ks.getD k st0).life (loanP ls (k : Int) ls.length) (ks.getD k st0).items.toNat [] (srK ks ls k)) := by
  have hl20 := hv.l20
  have hst := hv.st k hk
  have hps := possible_pure hv (k : Int) (ks.getD k st0).items (by omega) (by omega)
  rw [psV_ex hv (by omega) (by omega), Int.toNat_natCast] at hps
  have hLl := loanP_len ls (k : Int) ls.length
  have hLi := loanP_in ls (k : Int)
  have hfs := first_spec hv (ks.getD k st0).life hLi (by omega) (n := (ks.getD k st0).items.toNat) (by omega) (loanP ls (k : Int) ls.length).length (F := F) (G := []) (N := N) hF (e0 := e0) (e4 := e4) (vi := 0) (I := []) (T := T0 (ks.getD k st0).items.toNat) (by simp) (by simp) (fun a b _ h => by simp at h) (tO_nil (loanP ls (k : Int) ls.length) (ks.getD k st0).items.toNat)
  have hw0 := wO_nil ls (loanP ls (k : Int) ls.length) (ks.getD k st0).items.toNat
  have hT0 := tO_nil (loanP ls (k : Int) ls.length) (ks.getD k st0).items.toNat
  have hps : Pure Try.prog 57 [storA ks ls, .int k, .int (ks.getD k st0).items.toNat] (.bool (srK ks ls k).isSome) := by
    rw [Int.toNat_of_nonneg (by omega)]; exact hps
  have hfs : Go.Vg.Spec Try.prog 58 [.optr (N + 3) 1 0 0] (F ++ blk N ks ls e0 e4 (ks.getD k st0).life (loanP ls (k : Int) ls.length) 0 [] (List.replicate (ks.getD k st0).items.toNat 0) (T0 (ks.getD k st0).items.toNat) []) (FsQ F [] N ks ls e0 e4 (ks.getD k st0).life (loanP ls (k : Int) ls.length) (ks.getD k st0).items.toNat [] (srK ks ls k)) := by
    rw [hw0] at hfs; exact hfs
  have hQn : srK ks ls k = none → FsQ F [] N ks ls e0 e4 (ks.getD k st0).life (loanP ls (k : Int) ls.length) (ks.getD k st0).items.toNat [] (srK ks ls k) (.bool false) (F ++ blk N ks ls e0 e4 (ks.getD k st0).life (loanP ls (k : Int) ls.length) 0 [] (List.replicate (ks.getD k st0).items.toNat 0) (T0 (ks.getD k st0).items.toNat) []) := fun h => ⟨0, _, .inr ⟨h, rfl, hT0, by rw [hw0]⟩⟩
  have hQx : ∀ {x m'}, FsQ F [] N ks ls e0 e4 (ks.getD k st0).life (loanP ls (k : Int) ls.length) (ks.getD k st0).items.toNat [] (srK ks ls k) x m' → x = .bool (srK ks ls k).isSome := by
    rintro x m' ⟨vi', T', ⟨J, h1, h2, _⟩ | ⟨h1, h2, _⟩⟩
    · rw [h1, h2]; rfl
    · rw [h1, h2]; rfl
  generalize FsQ F [] N ks ls e0 e4 (ks.getD k st0).life (loanP ls (k : Int) ls.length) (ks.getD k st0).items.toNat [] (srK ks ls k) = Q at hfs hQn hQx
  generalize srK ks ls k = s at hps hQn hQx
  generalize hn : (ks.getD k st0).items.toNat = n at *
  generalize (ks.getD k st0).life = life at *
  have hTl : (T0 n).length = n := by simp [T0]
  generalize hTT : T0 n = T at *
  cases s with
  | none =>
    have hQn := hQn rfl
    simp only [Option.isSome_none] at hps
    (refine Spec.of_bodyA Try.func56 rfl (by rw [Try.ntmps56]; simp) ?_; rw [Try.results56, Try.ntmps56]; simp only [entry, zipArgs, Nat.reduceAdd])
    (refine x_go (zc (fun l => @getF _ l _ hF) (zc (fun l => @getF0 _ l _ hF) (zc @get7 (zc @lentR_len @hTl)))) ?_)
    (refine Wp.rnD 8 ?_; apply exAb; (((refine x_abn (zc (fun l => @getF _ l _ hF) (zc (fun l => @getF0 _ l _ hF) (zc @get7 (zc @lentR_len @hTl)))) ?_); (apply Abn.pureP; (exact x_ev (zc (fun l => @getF _ l _ hF) (zc (fun l => @getF0 _ l _ hF) (zc @get7 (zc @lentR_len @hTl))))); (exact (Enters.of Try.func57 rfl rfl)); (exact hps); (exact x_al (zc (fun l => @getF _ l _ hF) (zc (fun l => @getF0 _ l _ hF) (zc @get7 (zc @lentR_len @hTl))))); (try dsimp only [putA, optG])); (refine x_abn (zc (fun l => @getF _ l _ hF) (zc (fun l => @getF0 _ l _ hF) (zc @get7 (zc @lentR_len @hTl)))) ?_)); exact Abn.nil))
    (refine x_gg (zc (fun l => @getF _ l _ hF) (zc (fun l => @getF0 _ l _ hF) (zc @get7 (zc @lentR_len @hTl)))) ?_)
    (first | exact x_retA (zc (fun l => @getF _ l _ hF) (zc (fun l => @getF0 _ l _ hF) (zc @get7 (zc @lentR_len @hTl)))) | refine x_retAZ (zc (fun l => @getF _ l _ hF) (zc (fun l => @getF0 _ l _ hF) (zc @get7 (zc @lentR_len @hTl)))) ?_)
    exact hQn
  | some J =>
    simp only [Option.isSome_some] at hps hQx
    (refine Spec.of_bodyA Try.func56 rfl (by rw [Try.ntmps56]; simp) ?_; rw [Try.results56, Try.ntmps56]; simp only [entry, zipArgs, Nat.reduceAdd])
    (refine x_go (zc (fun l => @getF _ l _ hF) (zc (fun l => @getF0 _ l _ hF) (zc @get7 (zc @lentR_len @hTl)))) ?_)
    (refine Wp.rnD 8 ?_; apply exAb; (((refine x_abn (zc (fun l => @getF _ l _ hF) (zc (fun l => @getF0 _ l _ hF) (zc @get7 (zc @lentR_len @hTl)))) ?_); (apply Abn.pureP; (exact x_ev (zc (fun l => @getF _ l _ hF) (zc (fun l => @getF0 _ l _ hF) (zc @get7 (zc @lentR_len @hTl))))); (exact (Enters.of Try.func57 rfl rfl)); (exact hps); (exact x_al (zc (fun l => @getF _ l _ hF) (zc (fun l => @getF0 _ l _ hF) (zc @get7 (zc @lentR_len @hTl))))); (try dsimp only [putA, optG])); (refine x_abn (zc (fun l => @getF _ l _ hF) (zc (fun l => @getF0 _ l _ hF) (zc @get7 (zc @lentR_len @hTl)))) ?_)); exact Abn.nil))
    (refine x_gg (zc (fun l => @getF _ l _ hF) (zc (fun l => @getF0 _ l _ hF) (zc @get7 (zc @lentR_len @hTl)))) ?_)
    apply Run.spec (he := Enters.of Try.func58 rfl rfl) (hc := hfs)
    focus exact rfl
    focus (simp only [push_cast, seval, getF hF, getF0 hF, get7, lentR_len, hTl] <;> exact rfl)
    focus (exact x_ev (zc (fun l => @getF _ l _ hF) (zc (fun l => @getF0 _ l _ hF) (zc @get7 (zc @lentR_len @hTl)))))
    intro x' m' hq
    obtain rfl := hQx hq
    dsimp only [S.put, optG]
    (refine x_gg (zc (fun l => @getF _ l _ hF) (zc (fun l => @getF0 _ l _ hF) (zc @get7 (zc @lentR_len @hTl)))) ?_)
    (first | exact x_retA (zc (fun l => @getF _ l _ hF) (zc (fun l => @getF0 _ l _ hF) (zc @get7 (zc @lentR_len @hTl)))) | refine x_retAZ (zc (fun l => @getF _ l _ hF) (zc (fun l => @getF0 _ l _ hF) (zc @get7 (zc @lentR_len @hTl)))) ?_)
    exact hq
end Go.Proofs.Try
set_option maxHeartbeats 8000000
namespace Go.Proofs.Try
open Go.Vg

/-! the plan, kind by kind -/
/-- the items of the kinds before k, and of the first q loans of the kind k -/
def plQ (ls : List Ln) (f : Nat → List Int) (k q : Nat) : List Int := (List.range ls.length).map fun i => if (ls.getD i ln0).kind < (k : Int) ∨ ((ls.getD i ln0).kind = (k : Int) ∧ plc ls (ls.getD i ln0).kind i < q) then (f (ls.getD i ln0).kind.toNat).getD (plc ls (ls.getD i ln0).kind i) 0 else 0
theorem plQ_len (ls : List Ln) (f : Nat → List Int) (k q : Nat) : (plQ ls f k q).length = ls.length := by simp [plQ]
theorem plQ_zero {ks : List St} {ls : List Ln} (hv : SV ks ls) (f : Nat → List Int) : plQ ls f 0 0 = List.replicate ls.length 0 := by
  apply List.ext_getElem (by simp [plQ])
  intro i h1 h2
  have hi : i < ls.length := by simpa [plQ] using h1
  have := (hv.ln i hi).1
  simp only [plQ, List.getElem_map, List.getElem_range, List.getElem_replicate]
  rw [if_neg (by omega)]
theorem plQ_next (ls : List Ln) (f : Nat → List Int) (k : Nat) : plQ ls f k (loanP ls (k : Int) ls.length).length = plQ ls f (k + 1) 0 := by
  apply List.ext_getElem (by simp [plQ])
  intro i h1 h2
  have hi : i < ls.length := by simpa [plQ] using h1
  simp only [plQ, List.getElem_map, List.getElem_range]
  by_cases hk : (ls.getD i ln0).kind = (k : Int)
  · have := (loanP_at (N := ls.length) hi hk).1
    rw [hk, if_pos (by right; exact ⟨rfl, this⟩), if_pos (by left; omega)]
  · by_cases hk2 : (ls.getD i ln0).kind < (k : Int)
    · rw [if_pos (.inl hk2), if_pos (by left; omega)]
    · rw [if_neg (by omega), if_neg (by omega)]
theorem plQ_set {ls : List Ln} (f : Nat → List Int) {k q : Nat} (hq : q < (loanP ls (k : Int) ls.length).length) : plQ ls f k (q + 1) = (plQ ls f k q).set ((loanP ls (k : Int) ls.length).getD q 0).toNat ((f k).getD q 0) := by
  obtain ⟨n, h1, h2, h3, h4⟩ := plc_at hq
  rw [h3, Int.toNat_natCast]
  apply List.ext_getElem (by simp [plQ])
  intro i h5 h6
  have hi : i < ls.length := by simpa [plQ] using h5
  rw [List.getElem_set]
  simp only [plQ, List.getElem_map, List.getElem_range]
  by_cases hin : n = i
  · subst hin
    rw [if_pos rfl, if_pos (by right; rw [h2]; exact ⟨rfl, by omega⟩), h2, h4, Int.toNat_natCast]
  · rw [if_neg hin]
    by_cases hk : (ls.getD i ln0).kind = (k : Int)
    · have hne : plc ls (k : Int) i ≠ q := fun he => by
        have h7 := (loanP_at (N := ls.length) hi hk).2
        rw [he, h3] at h7
        omega
      rw [hk]
      by_cases hp : plc ls (k : Int) i < q
      · rw [if_pos (by right; exact ⟨rfl, by omega⟩), if_pos (by right; exact ⟨rfl, hp⟩)]
      · rw [if_neg (by omega), if_neg (by omega)]
    · by_cases hk2 : (ls.getD i ln0).kind < (k : Int)
      · rw [if_pos (.inl hk2), if_pos (.inl hk2)]
      · rw [if_neg (by omega), if_neg (by omega)]
theorem plQ_end {ks : List St} {ls : List Ln} (hv : SV ks ls) (f : Nat → List Int) : plQ ls f ks.length 0 = glue ls f ls.length := by
  apply List.ext_getElem (by simp [plQ, glue])
  intro i h1 h2
  have hi : i < ls.length := by simpa [plQ] using h1
  have := (hv.ln i hi).1
  simp only [plQ, glue, List.getElem_map, List.getElem_range]
  rw [if_pos (by left; omega)]
/-- the memory in front of the benches -/
def eF (e0 e2 : Ent) (G : Mem) (r : List Int) : Mem := e0 :: ⟨0, .row 1 (r.map AV.int)⟩ :: e2 :: G
theorem eF_len (e0 e2 : Ent) (G : Mem) (r : List Int) : (eF e0 e2 G r).length = G.length + 3 := rfl
theorem eF_0 (e0 e2 : Ent) (G : Mem) (r : List Int) : (eF e0 e2 G r)[0]? = some e0 := rfl
theorem eF_1 (e0 e2 : Ent) (G : Mem) (r : List Int) : (eF e0 e2 G r)[1]? = some ⟨0, .row 1 (r.map AV.int)⟩ := rfl
theorem eF_2 (e0 e2 : Ent) (G : Mem) (r : List Int) : (eF e0 e2 G r)[2]? = some e2 := rfl
theorem eF_s2 (e0 e2 e : Ent) (G : Mem) (r : List Int) : (eF e0 e2 G r).set 2 e = eF e0 e G r := rfl
theorem eFa_0 (e0 e2 : Ent) (G B : Mem) (r : List Int) : (eF e0 e2 G r ++ B)[0]? = some e0 := rfl
theorem eFa_1 (e0 e2 : Ent) (G B : Mem) (r : List Int) : (eF e0 e2 G r ++ B)[1]? = some ⟨0, .row 1 (r.map AV.int)⟩ := rfl
theorem eFa_2 (e0 e2 : Ent) (G B : Mem) (r : List Int) : (eF e0 e2 G r ++ B)[2]? = some e2 := rfl
theorem eF_app (e0 e2 : Ent) (G B : Mem) (r : List Int) : eF e0 e2 G r ++ B = eF e0 e2 (G ++ B) r := rfl
def EachQ (ks : List St) (ls : List Ln) (x : AV) (m' : Mem) : Prop := m' = [] ∧ (((∃ k, k < ks.length ∧ srK ks ls k = none) ∧ x = .nil) ∨ ((∀ k, k < ks.length → (srK ks ls k).isSome = true) ∧ ((ls ≠ [] ∧ x = .ints (glue ls (fun k => (srK ks ls k).getD []) ls.length)) ∨ (ls = [] ∧ ∃ A, x = .non A))))
theorem eachP_spec {ks : List St} {ls : List Ln} (hv : SV ks ls) : Go.Vg.Spec Try.prog 55 [storA ks ls, .clo 56 [refS ks ls]] [] (EachQ ks ls) := by
  have hl20 := hv.l20
  have hk8 := hv.k8
  have hQn : ∀ {k}, k < ks.length → srK ks ls k = none → EachQ ks ls .nil [] := fun hk h => ⟨rfl, .inl ⟨⟨_, hk, h⟩, rfl⟩⟩
  by_cases hls : ls = []
  · subst hls
    have hQs : ∀ A, (∀ k, k < ks.length → (srK ks [] k).isSome = true) → EachQ ks [] (.non A) [] := fun A h => ⟨rfl, .inr ⟨h, .inr ⟨rfl, A, rfl⟩⟩⟩
    generalize EachQ ks [] = Q at hQn hQs
    (refine Spec.bd 0 Try.func55 Try.results55 Try.ntmps55 ?_; simp only [entry, zipArgs, Nat.reduceAdd])
    repeat (first | apply Wp.seq | apply Wp.block)
    (refine w_beg ?_)
    (refine w_nr ?_)
    (refine w_gs ?_)
    refine Run.make0 (e := 3) (z := .int 0) (by simp only [push_cast, seval]) (by simp only [push_cast, seval]) (by simp only [push_cast, seval]) (by simp only [push_cast, seval]) (by simp only [push_cast, seval]) fun A => ?_
    have hQs := hQs A
    dsimp only [putA]
    (refine w_go ?_)
    (refine Wp.vacs 2 ?_; (try simp only [List.replicate_succ, List.replicate_zero, List.cons_append, List.nil_append]))
    refine Wp.loop (fun (q : Nat × Nat × Kind × Mem) => { t := [(1, .clo 56 [refS ks []]), (2, .optr 0 0 0 0), (5, .non A), (16, .lst 2 (ks.map stA)), (17, .int ks.length), (18, .int q.1)], m := eF ⟨0, .row 2 [storA ks []]⟩ ⟨q.2.1, q.2.2.1⟩ q.2.2.2 [], n := 56 }) (fun q => q.1 ≤ ks.length ∧ ∀ k, k < q.1 → (srK ks [] k).isSome = true) (fun q => ks.length - q.1) (0, 0, .row 1 [], []) ?_ ?_ ?_
    · (refine Le.of ?_ ?_ rfl rfl <;> (try simp only [push_cast, seval]) <;> (try (with_reducible rfl)))
      all_goals rfl
    · simp
    · rintro ⟨k, v, kd, G⟩ ⟨hk1, hk2⟩
      simp only at hk1 hk2
      (refine w_gs ?_)
      (apply Wp.cond; (exact w_ev))
      · intro hc
        simp only [decide_eq_true_eq, Int.ofNat_lt] at hc
        have hs := hv.st k hc
        have hnb := newBench_spec hv (k : Int) (ks.getD k st0).items (by omega) (by omega)
        rw [Int.toNat_natCast, show loanP ([] : List Ln) (k : Int) ([] : List Ln).length = [] from rfl] at hnb
        have hdo := fun (F : Mem) (N : Nat) (hF : F.length = N) (e4 : Ent) => planDo_spec hv hc hF ⟨0, .row 2 [storA ks []]⟩ e4
        rw [show loanP ([] : List Ln) (k : Int) ([] : List Ln).length = [] from rfl] at hdo
        generalize hy : ks.getD k st0 = y at hs hnb hdo
        (refine x_gs (zc @hy (zc @eF_len (zc @eF_0 (zc @eF_1 (zc @eF_2 @eF_s2))))) ?_)
        (apply Run.alcAt 2; (exact x_ev (zc @hy (zc @eF_len (zc @eF_0 (zc @eF_1 (zc @eF_2 @eF_s2)))))); ((try simp only [push_cast, seval, hy, eF_len, eF_0, eF_1, eF_2, eF_s2]) <;> exact sT); exact rfl; (try simp only [push_cast, seval, hy, eF_len, eF_0, eF_1, eF_2, eF_s2]))
        (refine x_gs (zc @hy (zc @eF_len (zc @eF_0 (zc @eF_1 (zc @eF_2 @eF_s2))))) ?_)
        apply Run.fresh (he := Enters.of Try.func67 rfl rfl)
        focus (simp only [push_cast, seval, hy, eF_len, eF_0, eF_1, eF_2, eF_s2] <;> exact rfl)
        focus (exact x_ev (zc @hy (zc @eF_len (zc @eF_0 (zc @eF_1 (zc @eF_2 @eF_s2))))))
        exact hnb
        focus (exact x_al (zc @hy (zc @eF_len (zc @eF_0 (zc @eF_1 (zc @eF_2 @eF_s2))))))
        rintro x m' ⟨rfl, e4, rfl⟩
        have hsh := blk_shift (G.length + 3) (ks := ks) (ls := []) (e4 := e4) (life := y.life) (L := []) (vi := 0) (I := []) (W := List.replicate y.items.toNat 0) (T := T0 y.items.toNat)
        simp only [shE] at hsh
        simp only [eF_len]
        rw [hsh]
        generalize hE4 : (⟨e4.ver, e4.kind.shift (G.length + 3)⟩ : Ent) = e5
        dsimp only [AV.shift]
        have hFl : ∀ (e2 : Ent) (r : List Int), (eF ⟨0, .row 2 [storA ks []]⟩ e2 G r).length = G.length + 3 := fun _ r => rfl
        generalize hN : G.length + 3 = N at hFl
        have hg := fun (e2 : Ent) (r : List Int) (l : Mem) (i : Nat) => getF (l := l) (hFl e2 r) i
        have hg0 := fun (e2 : Ent) (r : List Int) (l : Mem) => getF0 (l := l) (hFl e2 r)
        dsimp only [S.put, optG]
        (refine x_go (zc @hy (zc @eF_len (zc @eF_0 (zc @eF_1 (zc @eF_2 @eF_s2))))) ?_)
        apply Run.spec (he := Enters.of Try.func56 rfl rfl) (hc := hdo _ N (hFl _ []) e5)
        focus exact rfl
        focus (simp only [push_cast, seval, hy, eF_len, eF_0, eF_1, eF_2, eF_s2] <;> exact rfl)
        focus (exact x_ev (zc @hy (zc @eF_len (zc @eF_0 (zc @eF_1 (zc @eF_2 @eF_s2))))))
        rintro x' m' ⟨vi', T', ⟨J, h1, rfl, h2, rfl⟩ | ⟨h1, rfl, h2, rfl⟩⟩
        · generalize wO [] [] y.items.toNat J = W at *
          dsimp only [S.put, optG]
          (refine x_gg (zc @hy (zc @eFa_0 (zc @eFa_1 (zc @eFa_2 (zc @hg @hg0))))) ?_)
          refine Wp.loop (fun (_ : Nat) => { t := [(1, .clo 56 [refS ks []]), (2, .optr 0 0 0 0), (5, .non A), (8, .optr (N + 3) 1 0 0), (16, .lst 2 (ks.map stA)), (17, .int ks.length), (18, .int k), (36, .osl (N + 5) 0 0 0), (37, .int 0), (38, .int 0)], m := eF ⟨0, .row 2 [storA ks []]⟩ ⟨v + 1, .row 2 [stA y]⟩ G [] ++ blk N ks [] ⟨0, .row 2 [storA ks []]⟩ e5 y.life [] vi' J W T' [], n := 56 }) (fun _ => True) (fun _ => 0) 0 ?_ ?_ ?_
          · (refine Le.of ?_ ?_ rfl rfl <;> (try simp only [push_cast, seval, hy, eFa_0, eFa_1, eFa_2, hg, hg0]) <;> (try (with_reducible rfl)))
          · trivial
          · intro q hq1
            (refine x_go (zc @hy (zc @eFa_0 (zc @eFa_1 (zc @eFa_2 (zc @hg @hg0))))) ?_)
            (apply Wp.cond; (exact x_ev (zc @hy (zc @eFa_0 (zc @eFa_1 (zc @eFa_2 (zc @hg @hg0)))))))
            · intro hcq
              simp at hcq
            · intro hcq
              (refine x_go (zc @hy (zc @eFa_0 (zc @eFa_1 (zc @eFa_2 (zc @hg @hg0))))) ?_)
              refine ⟨(k + 1, v + 1, .row 2 [stA y], G ++ blk N ks [] ⟨0, .row 2 [storA ks []]⟩ e5 y.life [] vi' J W T' []), ?_, ⟨by simp only; omega, fun i hi => ?_⟩, by simp only; omega⟩
              · simp only
                rw [← eF_app]
                (refine Le.of ?_ ?_ rfl rfl <;> (try simp only [push_cast, seval, hy, eFa_0, eFa_1, eFa_2, hg, hg0]) <;> (try (with_reducible rfl)))
              · simp only at hi
                by_cases hik : i = k
                · rw [hik, show srK ks [] k = some J from h1]; rfl
                · exact hk2 i (by omega)
        · dsimp only [S.put, optG]
          (refine x_nr @hy ?_)
          (apply Run.nil; dsimp only [sQ, tQ, bQ])
          (apply Wp.condT; (exact x_ev @hy))
          repeat (first | apply Wp.seq | apply Wp.block)
          (refine x_beg @hy ?_)
          (apply Run.nilc; (try dsimp only [putA]))
          (apply Run.nil; dsimp only [sQ, tQ, bQ])
          (first | exact x_retK @hy | refine x_retKZ @hy ?_)
          exact hQn hc h1
      · intro hc
        simp only [decide_eq_false_iff_not, Int.ofNat_lt] at hc
        obtain rfl : k = ks.length := by omega
        (refine w_go ?_)
        (first | exact w_retK | refine w_retKZ ?_)
        exact hQs hk2
  · have hQs : (∀ k, k < ks.length → (srK ks ls k).isSome = true) → EachQ ks ls (.ints (glue ls (fun k => (srK ks ls k).getD []) ls.length)) [] := fun h => ⟨rfl, .inr ⟨h, .inl ⟨hls, rfl⟩⟩⟩
    have hpos : 0 < ls.length := List.length_pos_iff.2 hls
    generalize EachQ ks ls = Q at hQn hQs
    generalize hf : (fun k => (srK ks ls k).getD []) = f at hQs
    (refine Spec.bd 0 Try.func55 Try.results55 Try.ntmps55 ?_; simp only [entry, zipArgs, Nat.reduceAdd])
    (refine w_go ?_)
    (refine Wp.vacs 1 ?_; (try simp only [List.replicate_succ, List.replicate_zero, List.cons_append, List.nil_append]))
    refine Wp.loop (fun (q : Nat × Nat × Kind × Mem) => { t := [(1, .clo 56 [refS ks ls]), (2, .optr 0 0 0 0), (5, .osl 1 0 0 ls.length), (16, .lst 2 (ks.map stA)), (17, .int ks.length), (18, .int q.1)], m := eF ⟨0, .row 2 [storA ks ls]⟩ ⟨q.2.1, q.2.2.1⟩ q.2.2.2 (plQ ls f q.1 0), n := 56 }) (fun q => q.1 ≤ ks.length ∧ ∀ k, k < q.1 → (srK ks ls k).isSome = true) (fun q => ks.length - q.1) (0, 0, .row 1 [], []) ?_ ?_ ?_
    · rw [plQ_zero hv]
      (refine Le.of ?_ ?_ rfl rfl <;> (try simp only [push_cast, seval]) <;> (try (with_reducible rfl)))
      all_goals rfl
    · simp
    · rintro ⟨k, v, kd, G⟩ ⟨hk1, hk2⟩
      simp only at hk1 hk2
      have hql := plQ_len ls f k 0
      (refine w_gs ?_)
      (apply Wp.cond; (exact w_ev))
      · intro hc
        simp only [decide_eq_true_eq, Int.ofNat_lt] at hc
        have hs := hv.st k hc
        have hnb := newBench_spec hv (k : Int) (ks.getD k st0).items (by omega) (by omega)
        rw [Int.toNat_natCast] at hnb
        have hdo := fun (F : Mem) (N : Nat) (hF : F.length = N) (e4 : Ent) => planDo_spec hv hc hF ⟨0, .row 2 [storA ks ls]⟩ e4
        generalize hy : ks.getD k st0 = y at hs hnb hdo
        (refine x_gs (zc @hy (zc @eF_len (zc @eF_0 (zc @eF_1 (zc @eF_2 @eF_s2))))) ?_)
        (apply Run.alcAt 2; (exact x_ev (zc @hy (zc @eF_len (zc @eF_0 (zc @eF_1 (zc @eF_2 @eF_s2)))))); ((try simp only [push_cast, seval, hy, eF_len, eF_0, eF_1, eF_2, eF_s2]) <;> exact sT); exact rfl; (try simp only [push_cast, seval, hy, eF_len, eF_0, eF_1, eF_2, eF_s2]))
        (refine x_gs (zc @hy (zc @eF_len (zc @eF_0 (zc @eF_1 (zc @eF_2 @eF_s2))))) ?_)
        apply Run.fresh (he := Enters.of Try.func67 rfl rfl)
        focus (simp only [push_cast, seval, hy, eF_len, eF_0, eF_1, eF_2, eF_s2] <;> exact rfl)
        focus (exact x_ev (zc @hy (zc @eF_len (zc @eF_0 (zc @eF_1 (zc @eF_2 @eF_s2))))))
        exact hnb
        focus (exact x_al (zc @hy (zc @eF_len (zc @eF_0 (zc @eF_1 (zc @eF_2 @eF_s2))))))
        rintro x m' ⟨rfl, e4, rfl⟩
        have hsh := blk_shift (G.length + 3) (ks := ks) (ls := ls) (e4 := e4) (life := y.life) (L := loanP ls k ls.length) (vi := 0) (I := []) (W := List.replicate y.items.toNat 0) (T := T0 y.items.toNat)
        simp only [shE] at hsh
        simp only [eF_len]
        rw [hsh]
        generalize hE4 : (⟨e4.ver, e4.kind.shift (G.length + 3)⟩ : Ent) = e5
        dsimp only [AV.shift]
        have hFl : ∀ (e2 : Ent) (r : List Int), (eF ⟨0, .row 2 [storA ks ls]⟩ e2 G r).length = G.length + 3 := fun _ r => rfl
        generalize hN : G.length + 3 = N at hFl
        have hg := fun (e2 : Ent) (r : List Int) (l : Mem) (i : Nat) => getF (l := l) (hFl e2 r) i
        have hg0 := fun (e2 : Ent) (r : List Int) (l : Mem) => getF0 (l := l) (hFl e2 r)
        dsimp only [S.put, optG]
        (refine x_go (zc @hy (zc @eF_len (zc @eF_0 (zc @eF_1 (zc @eF_2 @eF_s2))))) ?_)
        apply Run.spec (he := Enters.of Try.func56 rfl rfl) (hc := hdo _ N (hFl _ (plQ ls f k 0)) e5)
        focus exact rfl
        focus (simp only [push_cast, seval, hy, eF_len, eF_0, eF_1, eF_2, eF_s2] <;> exact rfl)
        focus (exact x_ev (zc @hy (zc @eF_len (zc @eF_0 (zc @eF_1 (zc @eF_2 @eF_s2))))))
        rintro x' m' ⟨vi', T', ⟨J, h1, rfl, h2, rfl⟩ | ⟨h1, rfl, h2, rfl⟩⟩
        · have hJ := (srch_some h1).1.1
          have hJ : J.length = (loanP ls (k : Int) ls.length).length := by simpa using hJ
          have hfk : f k = J := by rw [← hf]; simp only [h1]; rfl
          have hst := fun q (hq : q < (loanP ls (k : Int) ls.length).length) => plQ_set (ls := ls) f hq
          have hLi := loanP_in ls (k : Int)
          have hLl := loanP_len ls (k : Int) ls.length
          have hnx := plQ_next ls f k
          rw [hfk] at hst
          generalize wO ls (loanP ls (k : Int) ls.length) y.items.toNat J = W at *
          generalize loanP ls (k : Int) ls.length = L at *
          dsimp only [S.put, optG]
          (refine x_gg (zc @hy (zc @eFa_0 (zc @eFa_1 (zc @eFa_2 (zc @hg (zc @hg0 @plQ_len)))))) ?_)
          refine Wp.loop (fun (q : Nat) => { t := [(1, .clo 56 [refS ks ls]), (2, .optr 0 0 0 0), (5, .osl 1 0 0 ls.length), (8, .optr (N + 3) 1 0 0), (16, .lst 2 (ks.map stA)), (17, .int ks.length), (18, .int k), (36, .osl (N + 5) L.length 0 L.length), (37, .int L.length), (38, .int q)], m := eF ⟨0, .row 2 [storA ks ls]⟩ ⟨v + 1, .row 2 [stA y]⟩ G (plQ ls f k q) ++ blk N ks ls ⟨0, .row 2 [storA ks ls]⟩ e5 y.life L vi' J W T' [], n := 56 }) (fun q => q ≤ L.length) (fun q => L.length - q) 0 ?_ ?_ ?_
          · (refine Le.of ?_ ?_ rfl rfl <;> (try simp only [push_cast, seval, hy, eFa_0, eFa_1, eFa_2, hg, hg0, plQ_len]) <;> (try (with_reducible rfl)))
          · simp
          · intro q hq1
            (refine x_go (zc @hy (zc @eFa_0 (zc @eFa_1 (zc @eFa_2 (zc @hg (zc @hg0 @plQ_len)))))) ?_)
            (apply Wp.cond; (exact x_ev (zc @hy (zc @eFa_0 (zc @eFa_1 (zc @eFa_2 (zc @hg (zc @hg0 @plQ_len))))))))
            · intro hcq
              simp only [decide_eq_true_eq, Int.ofNat_lt] at hcq
              have hlo : 0 ≤ L.getD q 0 ∧ L.getD q 0 < (ls.length : Int) := hLi _ (by simp [hcq])
              have hst1 := hst q hcq
              generalize hlv : L.getD q 0 = loan at hlo hst1
              generalize hjv : J.getD q 0 = j at hst1
              (refine x_go (zc @hy (zc @eFa_0 (zc @eFa_1 (zc @eFa_2 (zc @hg (zc @hg0 (zc @plQ_len (zc @hlv (zc @hjv @hJ))))))))) ?_)
              refine ⟨q + 1, ?_, by omega, by omega⟩
              rw [hst1]
              (refine Le.of ?_ ?_ rfl rfl <;> (try simp only [push_cast, seval, hy, eFa_0, eFa_1, eFa_2, hg, hg0, plQ_len, hlv, hjv, hJ]) <;> (try (with_reducible rfl)))
              all_goals rfl
            · intro hcq
              simp only [decide_eq_false_iff_not, Int.ofNat_lt] at hcq
              obtain rfl : q = L.length := by omega
              rw [hnx]
              (refine x_go (zc @hy (zc @eFa_0 (zc @eFa_1 (zc @eFa_2 (zc @hg (zc @hg0 @plQ_len)))))) ?_)
              refine ⟨(k + 1, v + 1, .row 2 [stA y], G ++ blk N ks ls ⟨0, .row 2 [storA ks ls]⟩ e5 y.life L vi' J W T' []), ?_, ⟨by simp only; omega, fun i hi => ?_⟩, by simp only; omega⟩
              · simp only
                rw [← eF_app]
                (refine Le.of ?_ ?_ rfl rfl <;> (try simp only [push_cast, seval, hy, eFa_0, eFa_1, eFa_2, hg, hg0, plQ_len]) <;> (try (with_reducible rfl)))
              · simp only at hi
                by_cases hik : i = k
                · rw [hik, show srK ks ls k = some J from h1]; rfl
                · exact hk2 i (by omega)
        · dsimp only [S.put, optG]
          (refine x_nr @hy ?_)
          (apply Run.nil; dsimp only [sQ, tQ, bQ])
          (apply Wp.condT; (exact x_ev @hy))
          repeat (first | apply Wp.seq | apply Wp.block)
          (refine x_beg @hy ?_)
          (apply Run.nilc; (try dsimp only [putA]))
          (apply Run.nil; dsimp only [sQ, tQ, bQ])
          (first | exact x_retK @hy | refine x_retKZ @hy ?_)
          exact hQn hc h1
      · intro hc
        simp only [decide_eq_false_iff_not, Int.ofNat_lt] at hc
        obtain rfl : k = ks.length := by omega
        have hend := plQ_end hv f
        rw [hend]
        have hgl := glue_len ls f ls.length
        (refine x_go (zc @eF_len (zc @eF_0 (zc @eF_1 (zc @eF_2 @hgl)))) ?_)
        (apply Wp.freeze 4; (exact x_ev (zc @eF_len (zc @eF_0 (zc @eF_1 (zc @eF_2 @hgl))))); (exact x_ev (zc @eF_len (zc @eF_0 (zc @eF_1 (zc @eF_2 @hgl))))); (focus (try simp only [push_cast, seval, eF_len, eF_0, eF_1, eF_2, hgl]); (try (exact sT))); (focus (exact sT)))
        (first | exact x_retK (zc @eF_len (zc @eF_0 (zc @eF_1 (zc @eF_2 @hgl)))) | refine x_retKZ (zc @eF_len (zc @eF_0 (zc @eF_1 (zc @eF_2 @hgl)))) ?_)
        rw [List.take_of_length_le (by omega)]
        exact hQs hk2
end Go.Proofs.Try
set_option maxHeartbeats 8000000
namespace Go.Proofs.Try
open Go.Vg

/-! Plan -/
def exA (ks : List St) (ls : List Ln) : Bool := (List.range ks.length).all fun k => (srK ks ls k).isSome
def gluS (ks : List St) (ls : List Ln) : List Int := glue ls (fun k => (srK ks ls k).getD []) ls.length
def plnA (ks : List St) (ls : List Ln) : AV := if chkE ks ls = 0 ∧ exA ks ls = true then .ints (gluS ks ls) else .emp
def plnE (ks : List St) (ls : List Ln) : Int := if chkE ks ls = 0 then (if exA ks ls = true then 0 else 101) else chkE ks ls
theorem Plan_pure (ks : List St) (ls : List Ln) (hk : ks.length ≤ 9223372036854775807) (hl : ls.length ≤ 9223372036854775807) : Pure Try.prog 25 [storA ks ls] (.tup [plnA ks ls, .int (plnE ks ls)]) := by
  have hck := check_pure ks ls hk hl
  unfold plnA plnE
  by_cases h1 : chkE ks ls = 0
  · have hv := chkE_ok h1
    have hea := eachP_spec hv
    rw [if_pos h1]
    rw [h1] at hck ⊢
    have hno : ∀ k, k < ks.length → srK ks ls k = none → exA ks ls = false := fun k hk h => range_no hk (by rw [h]; rfl)
    have hall : (∀ k, k < ks.length → (srK ks ls k).isSome = true) → exA ks ls = true := fun h => range_all h
    generalize exA ks ls = ex at hno hall
    (refine Spec.bd 0 Try.func25 Try.results25 Try.ntmps25 ?_; simp only [entry, zipArgs, Nat.reduceAdd])
    (refine w_go ?_)
    (apply Run.pureP; (exact w_ev); (exact (Enters.of Try.func28 rfl rfl)); (exact hck); (exact w_al); (try dsimp only [putA, optG]))
    (refine w_gs ?_)
    (apply Wp.condF; (exact w_ev))
    (apply Wp.skip; dsimp only [sQ, tQ, bQ])
    (refine w_fzP (slq 1) ?_)
    (refine w_go ?_)
    apply Run.fresh (he := Enters.of Try.func55 rfl rfl)
    focus (simp only [push_cast, seval] <;> exact rfl)
    focus (exact w_ev)
    exact hea
    focus (exact w_al)
    rintro x m' ⟨rfl, ⟨⟨k, hk1, hk2⟩, rfl⟩ | ⟨h2, ⟨h3, rfl⟩ | ⟨h3, A, rfl⟩⟩⟩
    · have := hno k hk1 hk2
      subst this
      dsimp only [AV.shift]
      dsimp only [S.put, optG]
      (refine w_go ?_)
      refine Run.isNil (e := 3) (b := true) (by simp only [push_cast, seval]) (by simp only [push_cast, seval]; rfl) ?_
      dsimp only [putA]
      (refine w_gg ?_)
      (first | exact w_ret | refine w_retZ ?_)
    · have := hall h2
      subst this
      have hgl : (gluS ks ls).length = ls.length := glue_len _ _ _
      have hpos : 0 < ls.length := List.length_pos_iff.2 h3
      rw [show glue ls (fun k => (srK ks ls k).getD []) ls.length = gluS ks ls from rfl]
      generalize gluS ks ls = gl at hgl
      obtain ⟨a, gl, rfl⟩ : ∃ a l, gl = a :: l := by
        cases gl with
        | nil => simp at hgl; omega
        | cons a l => exact ⟨a, l, rfl⟩
      have hsh : (AV.ints (a :: gl)).shift [(⟨1, .row 2 []⟩ : Ent)].length = .ints (a :: gl) := shift_ok _ _ (by simp only [push_cast])
      simp only [hsh, List.map_nil, List.append_nil]
      dsimp only [S.put, optG]
      (refine w_go ?_)
      refine Run.isNil (e := 3) (b := false) (by simp only [push_cast, seval]) (by simp only [push_cast, seval]; rfl) ?_
      dsimp only [putA]
      (refine w_gg ?_)
      (first | exact w_ret | refine w_retZ ?_)
    · have := hall h2
      subst this
      subst h3
      dsimp only [AV.shift]
      dsimp only [S.put, optG]
      (refine w_go ?_)
      refine Run.isNil (e := 3) (b := false) (by simp only [push_cast, seval]) (by simp only [push_cast, seval]; rfl) ?_
      dsimp only [putA]
      (refine w_gg ?_)
      refine Wp.empt 2 1 (A := some A) (by (exact w_ev)) ?_
      (first | exact w_ret | refine w_retZ ?_)
  · rw [if_neg (fun h => h1 h.1), if_neg h1]
    generalize chkE ks ls = e at hck h1
    have he : decide (e = 0) = false := decide_eq_false h1
    (refine Spec.bd 0 Try.func25 Try.results25 Try.ntmps25 ?_; simp only [entry, zipArgs, Nat.reduceAdd])
    (refine x_go @he ?_)
    (apply Run.pureP; (exact x_ev @he); (exact (Enters.of Try.func28 rfl rfl)); (exact hck); (exact x_al @he); (try dsimp only [putA, optG]))
    (refine x_gg @he ?_)
    (first | exact x_ret @he | refine x_retZ @he ?_)
end Go.Proofs.Try
set_option maxHeartbeats 8000000
namespace Go.Proofs.Try
open Go.Vg

/-! what a right plan uses up -/
structure RP (ks : List St) (ls : List Ln) (J : List Int) : Prop where
  len : J.length = ls.length
  rt : RtF (cS ks ls) (okS ks ls) 0 J
theorem RP.item {ks : List St} {ls : List Ln} {J : List Int} (h : RP ks ls J) {i : Nat} (hi : i < ls.length) : 0 ≤ J.getD i 0 ∧ J.getD i 0 < ((ks.getD (ls.getD i ln0).kind.toNat st0).items.toNat : Int) := by
  obtain ⟨j, h1, h2, _⟩ := h.rt i (by omega) (by rw [h.len]; exact hi)
  unfold cS at h1
  omega
theorem srch_rp {ks : List St} {ls : List Ln} {J : List Int} (h : srch (cS ks ls) (okS ks ls) ls.length [] = some J) : RP ks ls J := by
  obtain ⟨⟨h1, _, h3⟩, _⟩ := srch_some h
  exact ⟨by simpa using h1, h3⟩
end Go.Proofs.Try
set_option maxHeartbeats 8000000
set_option maxRecDepth 20000
namespace Go.Proofs.Try
open Go.Vg

/-! the document's Plan and Count -/
theorem pl_first {ks : List St} {ls : List Ln} (hv : SV ks ls) : (plL (cS ks ls) (okS ks ls) ls.length []).head? = if exA ks ls = true then some (gluS ks ls) else none := by
  rw [plL_head]
  by_cases h : exA ks ls = true
  · rw [if_pos h]
    refine glue_first hv fun k hk => ?_
    have := List.all_eq_true.1 h k (List.mem_range.2 hk)
    obtain ⟨x, hx⟩ := Option.isSome_iff_exists.1 this
    have hx' : srK ks ls k = some x := hx
    simp only [hx']
    exact hx
  · rw [if_neg h]
    cases hs : srch (cS ks ls) (okS ks ls) ls.length [] with
    | none => rfl
    | some J =>
      exfalso
      apply h
      have hr := srch_rp hs
      refine range_all fun k hk => ?_
      exact srch_isSome.2 ⟨pick (loanP ls (k : Int) ls.length) J, by simp [pick_len], by simp, (right_kinds hv hr.len).1 hr.rt k hk⟩
theorem rPlan_pure (ks : List St) (ls : List Ln) (hk : ks.length ≤ 9223372036854775807) (hl : ls.length ≤ 9223372036854775807) (h12 : chkE ks ls = 0 → ls.length ≤ 12) : Pure Try.prog 45 [storA ks ls] (.tup [plnA ks ls, .int (plnE ks ls)]) := by
  have hck := rcheck_pure ks ls hk hl
  unfold plnA plnE
  by_cases h1 : chkE ks ls = 0
  · have hv := chkE_ok h1
    have hp := plans_nil hv (h12 h1)
    have hf := pl_first hv
    have e1 : decide (chkE ks ls = 0) = true := decide_eq_true h1
    rw [if_pos h1]
    rw [h1] at hck ⊢
    generalize plL (cS ks ls) (okS ks ls) ls.length [] = pl at hp hf
    generalize exA ks ls = ex at hf
    generalize gluS ks ls = g at hf
    cases ex with
    | true =>
      rw [if_pos rfl] at hf
      obtain ⟨r, rfl⟩ : ∃ r, pl = g :: r := by
        cases pl with
        | nil => cases hf
        | cons a r => exact ⟨r, by simp only [List.head?_cons, Option.some.injEq] at hf; rw [hf]⟩
      have e2 : decide (((g :: r).length : Int) = 0) = false := decide_eq_false (by simp only [List.length_cons]; omega)
      (refine Spec.bd 0 Try.func45 Try.results45 Try.ntmps45 ?_; simp only [entry, zipArgs, Nat.reduceAdd])
      (refine x_go @e2 ?_)
      (apply Run.pureP; (exact x_ev @e2); (exact (Enters.of Try.func29 rfl rfl)); (exact hck); (exact x_al @e2); (try dsimp only [putA, optG]))
      (refine x_gg @e2 ?_)
      (apply Run.pureFP; (exact x_ev @e2); (exact (Enters.of Try.func76 rfl rfl)); (exact hp); (exact x_al @e2); (try dsimp only [putA, optG]))
      (refine x_gg @e2 ?_)
      (first | exact x_ret @e2 | refine x_retZ @e2 ?_)
    | false =>
      rw [if_neg (by decide)] at hf
      obtain rfl : pl = [] := List.head?_eq_none_iff.1 hf
      (refine Spec.bd 0 Try.func45 Try.results45 Try.ntmps45 ?_; simp only [entry, zipArgs, Nat.reduceAdd])
      (refine w_go ?_)
      (apply Run.pureP; (exact w_ev); (exact (Enters.of Try.func29 rfl rfl)); (exact hck); (exact w_al); (try dsimp only [putA, optG]))
      (refine w_gg ?_)
      (apply Run.pureFP; (exact w_ev); (exact (Enters.of Try.func76 rfl rfl)); (exact hp); (exact w_al); (try dsimp only [putA, optG]))
      (refine w_gg ?_)
      (first | exact w_ret | refine w_retZ ?_)
  · have e1 : decide (chkE ks ls = 0) = false := decide_eq_false h1
    rw [if_neg (fun h => h1 h.1), if_neg h1]
    generalize chkE ks ls = e at *
    (refine Spec.bd 0 Try.func45 Try.results45 Try.ntmps45 ?_; simp only [entry, zipArgs, Nat.reduceAdd])
    (refine x_go @e1 ?_)
    (apply Run.pureP; (exact x_ev @e1); (exact (Enters.of Try.func29 rfl rfl)); (exact hck); (exact x_al @e1); (try dsimp only [putA, optG]))
    (refine x_gg @e1 ?_)
    (first | exact x_ret @e1 | refine x_retZ @e1 ?_)
def ctN (ks : List St) (ls : List Ln) : Int := if chkE ks ls = 0 then (pdK ks ls ks.length : Int) else 0
theorem rCount_pure (ks : List St) (ls : List Ln) (hk : ks.length ≤ 9223372036854775807) (hl : ls.length ≤ 9223372036854775807) (h12 : chkE ks ls = 0 → ls.length ≤ 12 ∧ pdK ks ls ks.length ≤ 4096) : Pure Try.prog 47 [storA ks ls] (.tup [.int (ctN ks ls), .int (chkE ks ls)]) := by
  have hck := rcheck_pure ks ls hk hl
  unfold ctN
  by_cases h1 : chkE ks ls = 0
  · have hv := chkE_ok h1
    have hp := plans_nil hv (h12 h1).1
    have hf := pl_kinds hv
    have hb := (h12 h1).2
    rw [if_pos h1]
    rw [h1] at hck ⊢
    generalize plL (cS ks ls) (okS ks ls) ls.length [] = pl at hp hf
    rw [← hf] at hb ⊢
    have hm : min (pl.length : Int) 1099511627776 = pl.length := by omega
    (refine Spec.bd 0 Try.func47 Try.results47 Try.ntmps47 ?_; simp only [entry, zipArgs, Nat.reduceAdd])
    (refine x_go @hm ?_)
    (apply Run.pureP; (exact x_ev @hm); (exact (Enters.of Try.func29 rfl rfl)); (exact hck); (exact x_al @hm); (try dsimp only [putA, optG]))
    (refine x_gg @hm ?_)
    (apply Run.pureFP; (exact x_ev @hm); (exact (Enters.of Try.func76 rfl rfl)); (exact hp); (exact x_al @hm); (try dsimp only [putA, optG]))
    (refine x_gg @hm ?_)
    (first | exact x_ret @hm | refine x_retZ @hm ?_)
  · have e1 : decide (chkE ks ls = 0) = false := decide_eq_false h1
    rw [if_neg h1]
    generalize chkE ks ls = e at *
    (refine Spec.bd 0 Try.func47 Try.results47 Try.ntmps47 ?_; simp only [entry, zipArgs, Nat.reduceAdd])
    (refine x_go @e1 ?_)
    (apply Run.pureP; (exact x_ev @e1); (exact (Enters.of Try.func29 rfl rfl)); (exact hck); (exact x_al @e1); (try dsimp only [putA, optG]))
    (refine x_gg @e1 ?_)
    (first | exact x_ret @e1 | refine x_retZ @e1 ?_)
/-- what is small -/
theorem small_loans {ks : List St} {ls : List Ln} (hv : SV ks ls) (hg : lgS ks ls = false) : ls.length ≤ 6 ∧ ∀ k, k < ks.length → (ks.getD k st0).items ≤ 4 := by
  unfold lgS at hg
  rw [Bool.or_eq_false_iff, Bool.and_eq_false_iff, decide_eq_false_iff_not, decide_eq_false_iff_not, List.any_eq_false] at hg
  have h1 := hv.l20
  have h2 := hv.k8
  refine ⟨by omega, fun k hk => ?_⟩
  have h3 := hg.2 k (List.mem_range.2 hk)
  have h4 := hv.st k hk
  unfold lgK at h3
  simp only [Bool.and_eq_true, decide_eq_true_eq] at h3
  omega
theorem small_items {ks : List St} {ls : List Ln} (hv : SV ks ls) (hg : lgS ks ls = false) : ∀ l ∈ ls, itK ks (kdL l) ≤ 4 := fun l hl => by
  have h1 := (hv.mem hl).1
  have h2 := (small_loans hv hg).2 l.kind.toNat (by omega)
  unfold itK kdL
  omega
theorem small_pd {ks : List St} {ls : List Ln} (hv : SV ks ls) (hg : lgS ks ls = false) (K : Nat) : pdK ks ls K ≤ 4096 := by
  have h1 := pd_le (m := 4) (fun l hl => ⟨(hv.mem hl).1.1, (hv.mem hl).2.2.1⟩) (by omega) (small_items hv hg) K
  have h2 : 4 ^ ls.length ≤ 4 ^ 6 := Nat.pow_le_pow_right (by omega) (small_loans hv hg).1
  have h3 : (4 : Nat) ^ 6 = 4096 := by decide
  omega
theorem small_cn {ks : List St} {ls : List Ln} (hv : SV ks ls) (hg : lgS ks ls = false) (K : Nat) : cnA ks ls K ≤ 4096 := by
  have h1 := cnA_le (m := 4) (by omega) (small_items hv hg) K
  have h2 : 4 ^ ls.length ≤ 4 ^ 6 := Nat.pow_le_pow_right (by omega) (small_loans hv hg).1
  have h3 : (4 : Nat) ^ 6 = 4096 := by decide
  omega
end Go.Proofs.Try
set_option maxHeartbeats 8000000
set_option maxRecDepth 20000
namespace Go.Proofs.Try
open Go.Vg

/-! shelves as cells, and as keys of the maps -/
def flS (s : List (Int × Int)) : List Int := s.flatMap fun p => [p.1, p.2]
theorem flS_cons (p : Int × Int) (s : List (Int × Int)) : flS (p :: s) = p.1 :: p.2 :: flS s := by simp [flS]
theorem flS_len : ∀ s : List (Int × Int), (flS s).length = 2 * s.length
  | [] => rfl
  | p :: s => by rw [flS_cons, List.length_cons, List.length_cons, flS_len s, List.length_cons]; omega
theorem flS_get0 : ∀ {s : List (Int × Int)} {k : Nat}, (flS s).getD (k * 2) 0 = (s.getD k (0, 0)).1
  | [], k => by simp [flS]
  | p :: s, 0 => by rw [flS_cons]; rfl
  | p :: s, k + 1 => by
    rw [flS_cons, show (k + 1) * 2 = k * 2 + 1 + 1 by omega, List.getD_cons_succ, List.getD_cons_succ, List.getD_cons_succ]
    exact flS_get0
theorem flS_get1 : ∀ {s : List (Int × Int)} {k : Nat}, (flS s).getD (k * 2 + 1) 0 = (s.getD k (0, 0)).2
  | [], k => by simp [flS]
  | p :: s, 0 => by rw [flS_cons]; rfl
  | p :: s, k + 1 => by
    rw [flS_cons, show (k + 1) * 2 + 1 = k * 2 + 1 + 1 + 1 by omega, List.getD_cons_succ, List.getD_cons_succ, List.getD_cons_succ]
    exact flS_get1
theorem flS_set0 (z : Int) : ∀ {s : List (Int × Int)} {k : Nat}, k < s.length → (flS s).set (k * 2) z = flS (s.set k (z, (s.getD k (0, 0)).2))
  | [], k, h => by simp at h
  | p :: s, 0, _ => by simp [flS_cons]
  | p :: s, k + 1, h => by
    rw [flS_cons, show (k + 1) * 2 = k * 2 + 1 + 1 by omega, List.set_cons_succ, List.set_cons_succ, List.set_cons_succ, flS_cons, List.getD_cons_succ, flS_set0 z (by simpa using h)]
theorem flS_set (a b : Int) : ∀ {s : List (Int × Int)} {k : Nat}, k < s.length → (flS s).take (k * 2) ++ a :: b :: (flS s).drop (k * 2 + 2) = flS (s.set k (a, b))
  | [], k, h => by simp at h
  | p :: s, 0, _ => by simp [flS_cons]
  | p :: s, k + 1, h => by
    rw [flS_cons, show (k + 1) * 2 + 2 = k * 2 + 2 + 1 + 1 by omega, show (k + 1) * 2 = k * 2 + 1 + 1 by omega, List.take_succ_cons, List.take_succ_cons, List.drop_succ_cons, List.drop_succ_cons, List.set_cons_succ, flS_cons, ← flS_set a b (by simpa using h)]
    rfl
theorem set_mid (C : List Int) (k : Nat) (z : Int) (h : k < C.length) : C.take k ++ [z] ++ C.drop (k + 1) = C.set k z := by
  rw [List.set_eq_take_append_cons_drop, if_pos h]; simp
theorem flS_inj : ∀ {s t : List (Int × Int)}, flS s = flS t → s = t
  | [], [], _ => rfl
  | [], _ :: _, h => by rw [flS_cons] at h; cases h
  | _ :: _, [], h => by rw [flS_cons] at h; cases h
  | p :: s, q :: t, h => by
    rw [flS_cons, flS_cons] at h
    simp only [List.cons.injEq] at h
    rw [flS_inj h.2.2, Prod.ext h.1 h.2.1]
/-- the cells of the array, and its elements -/
theorem flS_agg (s : List (Int × Int)) : (s.map fun p => [AV.int p.1, AV.int p.2]).flatten = (flS s).map AV.int := by
  induction s with
  | nil => rfl
  | cons p s ih => rw [List.map_cons, List.flatten_cons, ih, flS_cons]; rfl
theorem pr_agg (s : List (Int × Int)) : (s.map fun p => [AV.int p.1, AV.int p.2]).map AV.agg = s.map prA := by simp [prA]
theorem c109 : Try.prog.cellsOf 109 = 16 := by kernel_rfl
theorem c107 : Try.prog.cellsOf 107 = 2 := by kernel_rfl
theorem c3 : Try.prog.cellsOf 3 = 1 := by kernel_rfl
theorem kt109 : Try.prog.keyType 109 = true := by kernel_rfl
theorem klit (d : Nat) (a : Int) (h : (Lit.int .i64 a).wf = true) : Try.prog.keyLits (d + 1) 3 [.int .i64 a] = some [.int .i64 a] := by
  simp [Program.keyLits, Try.underlying3, h]
theorem klit2 (d : Nat) (a b : Int) (h : (Lit.int .i64 a).wf = true) (h2 : (Lit.int .i64 b).wf = true) : Try.prog.keyLits (d + 2) 107 [.int .i64 a, .int .i64 b] = some [.int .i64 a, .int .i64 b] := by
  unfold Program.keyLits
  simp only [Try.underlying107, c107, c3]
  simp [klit, h, h2, c3]
abbrev kyV (b : List Int) : Value := .agg (b.map (Value.int .i64)).toArray
theorem klits (d : Nat) (s : List (Int × Int)) (hl : s.length = 8) (hw : ∀ p ∈ s, (Lit.int .i64 p.1).wf = true ∧ (Lit.int .i64 p.2).wf = true) :
    (Try.prog.keyLits (d + 3) 109 ((flS s).map (Value.int .i64))).isSome = true := by
  match s, hl with
  | [p0, p1, p2, p3, p4, p5, p6, p7], _ =>
    have w0 := hw p0 (by simp)
    have w1 := hw p1 (by simp)
    have w2 := hw p2 (by simp)
    have w3 := hw p3 (by simp)
    have w4 := hw p4 (by simp)
    have w5 := hw p5 (by simp)
    have w6 := hw p6 (by simp)
    have w7 := hw p7 (by simp)
    unfold Program.keyLits
    simp only [Try.underlying109, c109, c107, flS_cons, List.map_cons]
    simp [flS, klit2, c107, w0, w1, w2, w3, w4, w5, w6, w7, List.range, List.range.loop]
theorem goodS {s : List (Int × Int)} (hl : s.length = 8) (hw : ∀ p ∈ s, (Lit.int .i64 p.1).wf = true ∧ (Lit.int .i64 p.2).wf = true) : goodK Try.prog 109 (kyV (flS s)) = true := by
  have hts : Nat.ble 2 Try.prog.types.size = true := by kernel_rfl
  have hts' := Nat.le_of_ble_eq_true hts
  obtain ⟨d, hd⟩ : ∃ d, Try.prog.types.size + 1 = d + 3 := ⟨Try.prog.types.size - 2, by omega⟩
  have hk := klits d s hl hw
  have hf : (kyV (flS s)).formed Try.prog 109 = true := by
    simp [Value.formed, Try.underlying109, c109, flS_len, hl]
  unfold goodK keyOf
  simp only [Try.underlying109, kt109, hf, hd, Value.cells]
  simpa using hk
theorem keyedS : Maps.Keyed Try.prog 109 := kdB_ok (by kernel_rfl)
def ShL (s : List (Int × Int)) : Prop := s.length = 8 ∧ ∀ p ∈ s, ShB p
theorem goodSS {s : List (Int × Int)} (h : ShL s) : goodK Try.prog 109 (kyV (flS s)) = true := by
  refine goodS h.1 fun p hp => ?_
  obtain ⟨h1, h2⟩ := h.2 p hp
  constructor
  · simp [Lit.wf, IntKind.min, IntKind.max, IntKind.signed, IntKind.bits]; omega
  · simp [Lit.wf, IntKind.min, IntKind.max, IntKind.signed, IntKind.bits]; omega
theorem eqVs_ints : ∀ (a b : List Int), eqVs (a.map (Value.int .i64)) (b.map (Value.int .i64)) = decide (a = b)
  | [], [] => by simp [eqVs]
  | [], _ :: _ => by simp [eqVs]
  | _ :: _, [] => by simp [eqVs]
  | x :: a, y :: b => by
    simp only [List.map_cons, eqVs, eqV1, eqIn_eq]
    by_cases h : x = y
    · subst h; simp [eqVs_ints a b]
    · simp [h]
theorem eqKey_B (a b : List Int) : eqKey (kyV a) (kyV b) = decide (a = b) := by simp [eqKey, eqVs_ints]
theorem keyVs_ints (b : List Int) : keyVs (b.map AV.int) = some (b.map (Value.int .i64)) := by
  induction b with
  | nil => rfl
  | cons a b ih => simp only [List.map_cons, keyVs, ih]
theorem findL_upd (l : List (Value × AV)) (a b : List Int) (x : AV) : findL (updL l (kyV a) x) (kyV b) = if a = b then some x else findL l (kyV b) := by
  induction l with
  | nil => simp only [updL, findL, eqKey_B]; by_cases h : a = b <;> simp [h]
  | cons e l ih =>
    obtain ⟨k, y⟩ := e
    simp only [updL]
    cases hk : eqKey k (kyV a) with
    | true =>
      have := eqKey_ok hk
      subst this
      simp only [findL, eqKey_B]
      by_cases h : a = b <;> simp [h]
    | false =>
      simp only [findL]
      cases hk2 : eqKey k (kyV b) with
      | true =>
        have := eqKey_ok hk2
        subst this
        rw [eqKey_B] at hk
        simp only [decide_eq_false_iff_not] at hk
        rw [if_neg (fun h => hk h.symm)]
      | false => exact ih
theorem goodL_upd {s : List (Int × Int)} (hb : ShL s) (x : AV) : ∀ (l : List (Value × AV)), goodL Try.prog 109 l = true → goodL Try.prog 109 (updL l (kyV (flS s)) x) = true
  | [], _ => by simp only [updL, goodL, goodSS hb]
  | (k, y) :: l, h => by
    simp only [goodL] at h
    cases hg : goodK Try.prog 109 k with
    | false => rw [hg] at h; cases h
    | true =>
      rw [hg] at h
      simp only [updL]
      split
      · simp only [goodL, hg]; exact h
      · simp only [goodL, hg]; exact goodL_upd hb x l h
/-- what is known of the loans from one on -/
structure MoS (life : Int) (c : Nat) (xs : List Ln) (l : List (Value × AV)) : Prop where
  good : goodL Try.prog 109 l = true
  val : ∀ s v, s.length = c → findL l (kyV (flS (s ++ List.replicate (8 - c) (0, 0)))) = some v → v = .int (gS Ln.fr Ln.to Ln.uses life xs s : Nat)
theorem MoS.nil (life : Int) (c : Nat) (xs : List Ln) : MoS life c xs [] := ⟨rfl, fun s v _ h => by cases h⟩
theorem MoS.upd {life : Int} {c : Nat} {xs : List Ln} {l : List (Value × AV)} (h : MoS life c xs l) {s : List (Int × Int)} (hs : s.length = c) (hb : ShL (s ++ List.replicate (8 - c) (0, 0))) : MoS life c xs (updL l (kyV (flS (s ++ List.replicate (8 - c) (0, 0)))) (.int (gS Ln.fr Ln.to Ln.uses life xs s : Nat))) := by
  refine ⟨goodL_upd hb _ l h.good, fun t v ht hv => ?_⟩
  rw [findL_upd] at hv
  split at hv
  · rename_i e
    have := flS_inj e
    have e2 := (List.append_inj this (by rw [hs, ht])).1
    subst e2
    exact (Option.some.inj hv).symm
  · exact h.val t v ht hv
end Go.Proofs.Try
set_option maxHeartbeats 8000000
set_option maxRecDepth 20000
namespace Go.Proofs.Try
open Go.Vg

/-! counting, with what is known -/
def knL (N n : Nat) : List AV := (List.range n).map fun i => .omap (N + i) 1
theorem knL_get {N n i : Nat} (h : i < n) (d : AV) : (knL N n).getD i d = .omap (N + i) 1 := by simp [knL, h]
def mpsE (n : Nat) (mp : Nat → List (Value × AV)) : Mem := (List.range n).map fun i => (⟨1, .mp (mp i)⟩ : Ent)
def Mm (F : Mem) (n : Nat) (mp : Nat → List (Value × AV)) (G : Mem) : Mem := F ++ (mpsE n mp ++ G)
def upM (mp : Nat → List (Value × AV)) (i : Nat) (L : List (Value × AV)) : Nat → List (Value × AV) := fun j => if j = i then L else mp j
theorem upM_same (mp : Nat → List (Value × AV)) (i : Nat) (L : List (Value × AV)) : upM mp i L i = L := by simp [upM]
theorem upM_ne (mp : Nat → List (Value × AV)) {i j : Nat} (L : List (Value × AV)) (h : j ≠ i) : upM mp i L j = mp j := by simp [upM, h]
theorem mpsE_len (n : Nat) (mp : Nat → List (Value × AV)) : (mpsE n mp).length = n := by simp [mpsE]
theorem mpsE_set (n : Nat) (mp : Nat → List (Value × AV)) {i : Nat} (L : List (Value × AV)) (h : i < n) : (mpsE n mp).set i ⟨1, .mp L⟩ = mpsE n (upM mp i L) := by
  apply List.ext_getElem
  · simp [mpsE]
  · intro j h1 h2
    simp only [List.length_set, mpsE_len] at h1
    rw [List.getElem_set]
    split
    · rename_i hij; subst hij; simp [mpsE, upM]
    · rename_i hij; simp [mpsE, upM, show ¬ j = i from fun h => hij h.symm]
theorem Mm_app (F : Mem) (n : Nat) (mp : Nat → List (Value × AV)) (G l : Mem) : Mm F n mp G ++ l = Mm F n mp (G ++ l) := by simp [Mm]
theorem Mm_len (F : Mem) (n : Nat) (mp : Nat → List (Value × AV)) (G : Mem) : (Mm F n mp G).length = F.length + (n + G.length) := by simp [Mm, mpsE_len]
theorem Mm_low {F : Mem} {r : Nat} {e : Ent} (h : F[r]? = some e) (n : Nat) (mp : Nat → List (Value × AV)) (G l : Mem) : (Mm F n mp G ++ l)[r]? = some e := by
  have hl := (List.getElem?_eq_some_iff.1 h).1
  rw [Mm_app, Mm, List.getElem?_append_left hl, h]
theorem Mm_map (F : Mem) (n : Nat) (mp : Nat → List (Value × AV)) (G l : Mem) {i : Nat} (h : i < n) : (Mm F n mp G ++ l)[F.length + i]? = some ⟨1, .mp (mp i)⟩ := by
  rw [Mm_app, Mm, List.getElem?_append_right (by omega), Nat.add_sub_cancel_left, List.getElem?_append_left (by rw [mpsE_len]; exact h)]
  simp [mpsE, h]
theorem Mm_setm (F : Mem) (n : Nat) (mp : Nat → List (Value × AV)) (G l : Mem) {i : Nat} (h : i < n) (L : List (Value × AV)) : (Mm F n mp G ++ l).set (F.length + i) ⟨1, .mp L⟩ = Mm F n (upM mp i L) G ++ l := by
  rw [Mm_app, Mm_app, Mm, Mm, List.set_append_right _ _ (by omega), Nat.add_sub_cancel_left, List.set_append_left _ _ (by rw [mpsE_len]; exact h), mpsE_set n mp L h]
/-- a counter in memory -/
structure CM (life : Int) (c : Nat) (ss : List Ln) (F : Mem) (N r vr il vl ik vk : Nat) : Prop where
  hN : F.length = N
  hr : F[r]? = some ⟨vr, .row 4 [.agg [.osl il vl 0 ss.length, .int life, .int c, .osl ik vk 0 ss.length]]⟩
  hl : F[il]? = some ⟨vl, .row 5 (ss.map lnA)⟩
  hk : F[ik]? = some ⟨vk, .row 1 (knL N ss.length)⟩
structure CV (life : Int) (c : Nat) (ss : List Ln) : Prop where
  life : 1 ≤ life ∧ life ≤ 100
  c4 : c ≤ 4
  l6 : ss.length ≤ 6
  asc : Asc Ln.fr ss
  ln : ∀ i, i < ss.length → (0 ≤ (ss.getD i ln0).fr ∧ (ss.getD i ln0).fr < (ss.getD i ln0).to ∧ (ss.getD i ln0).to ≤ 1440) ∧ 0 ≤ (ss.getD i ln0).uses ∧ (ss.getD i ln0).uses ≤ 100
def CtQ (life : Int) (c : Nat) (ss : List Ln) (F G : Mem) (mp : Nat → List (Value × AV)) (i : Nat) (m' : Mem) : Prop :=
  ∃ (mp' : Nat → List (Value × AV)) (J : Mem), (∀ j, j < i → mp' j = mp j) ∧ (∀ j, i ≤ j → j < ss.length → MoS life c (ss.drop j) (mp' j)) ∧ m' = Mm F ss.length mp' G ++ J
/-- the shelves of the array -/
def s8 (c : Nat) (s : List (Int × Int)) : List (Int × Int) := s ++ List.replicate (8 - c) (0, 0)
def mixS (f : Int) (s : List (Int × Int)) (k : Nat) : List (Int × Int) := clrS f (s.take k) ++ s.drop k
theorem mixS_0 (f : Int) (s : List (Int × Int)) : mixS f s 0 = s := by simp [mixS, clrS]
theorem mixS_len (f : Int) (s : List (Int × Int)) (k : Nat) : (mixS f s k).length = s.length := by simp [mixS, clrS]; omega
theorem mixS_get (f : Int) {s : List (Int × Int)} {k : Nat} (h : k < s.length) : (mixS f s k).getD k (0, 0) = s.getD k (0, 0) := by
  have hl : (clrS f (s.take k)).length = k := by simp [clrS]; omega
  unfold mixS
  rw [List.getD_eq_getElem?_getD, List.getElem?_append_right (by omega), hl, Nat.sub_self, List.getElem?_drop, List.getD_eq_getElem?_getD]
  rfl
theorem mixS_succ (f : Int) {s : List (Int × Int)} {k : Nat} (h : k < s.length) : (mixS f s k).set k (if (s.getD k (0, 0)).1 ≤ f then (0, (s.getD k (0, 0)).2) else s.getD k (0, 0)) = mixS f s (k + 1) := by
  have hl : (clrS f (s.take k)).length = k := by simp [clrS]; omega
  have e1 : s.take (k + 1) = s.take k ++ [s.getD k (0, 0)] := by rw [List.take_add_one]; simp [h]
  have e2 : s.drop k = s.getD k (0, 0) :: s.drop (k + 1) := by rw [List.drop_eq_getElem_cons h]; simp [h]
  unfold mixS
  rw [List.set_append_right _ _ (by omega), hl, Nat.sub_self, e1, e2]
  simp [clrS]
theorem mixS_same (f : Int) {s : List (Int × Int)} {k : Nat} (h : k < s.length) (hn : ¬ (s.getD k (0, 0)).1 ≤ f) : mixS f s (k + 1) = mixS f s k := by
  rw [← mixS_succ f h, if_neg hn, ← mixS_get f h]
  have hk : k < (mixS f s k).length := by rw [mixS_len]; exact h
  simp [hk]
theorem mixS_all (f : Int) {c : Nat} {s : List (Int × Int)} (h : s.length = c) : mixS f (s8 c s) c = s8 c (clrS f s) := by
  unfold mixS s8
  rw [List.take_append_of_le_length (by omega), List.take_of_length_le (by omega), List.drop_append_of_le_length (by omega), List.drop_of_length_le (by omega), List.nil_append]
theorem s8_len {c : Nat} {s : List (Int × Int)} (h : s.length = c) (hc : c ≤ 8) : (s8 c s).length = 8 := by simp [s8, h]; omega
theorem s8_get {c : Nat} {s : List (Int × Int)} {k : Nat} (h : k < s.length) : (s8 c s).getD k (0, 0) = s.getD k (0, 0) := by
  simp [s8, List.getElem?_append_left h]
theorem s8_set {c : Nat} {s : List (Int × Int)} {k : Nat} (h : k < s.length) (z : Int × Int) : (s8 c s).set k z = s8 c (s.set k z) := by
  simp [s8, List.set_append_left _ _ h]
theorem s8_sh {c : Nat} {s : List (Int × Int)} (h : s.length = c) (hc : c ≤ 8) (hb : ∀ p ∈ s, ShB p) : ShL (s8 c s) := by
  refine ⟨s8_len h hc, fun p hp => ?_⟩
  rcases List.mem_append.1 hp with q | q
  · exact hb p q
  · rw [List.eq_of_mem_replicate q]; exact ⟨by simp, by simp⟩
theorem clr_sh {f : Int} {s : List (Int × Int)} (hb : ∀ p ∈ s, ShB p) : ∀ p ∈ clrS f s, ShB p := fun p hp => by
  unfold clrS at hp
  obtain ⟨q, hq, rfl⟩ := List.mem_map.1 hp
  obtain ⟨h1, h2⟩ := hb q hq
  split
  · exact ⟨by simp, h2⟩
  · exact ⟨h1, h2⟩
theorem gS_le (fr to us : Ln → Int) (life : Int) : ∀ (ls : List Ln) (s : List (Int × Int)), gS fr to us life ls s ≤ s.length ^ ls.length
  | [], _ => by simp [gS]
  | l :: ls, s => by
    rw [gS_cons, List.length_cons, Nat.pow_succ, Nat.mul_comm]
    refine sgN_le fun k hk => ?_
    split
    · have := gS_le fr to us life ls (s.set k (to l, (s.getD k (0, 0)).2 + us l))
      rw [List.length_set] at this
      exact this
    · omega
theorem gS_small (fr to us : Ln → Int) (life : Int) {ls : List Ln} {s : List (Int × Int)} (h : s.length ≤ 4) (hl : ls.length ≤ 6) : gS fr to us life ls s ≤ 4096 := by
  have h1 := gS_le fr to us life ls s
  have h2 : s.length ^ ls.length ≤ 4 ^ ls.length := Nat.pow_le_pow_left h _
  have h3 : 4 ^ ls.length ≤ 4 ^ 6 := Nat.pow_le_pow_right (by omega) hl
  have h4 : (4 : Nat) ^ 6 = 4096 := by decide
  omega
theorem sgN_mono {f : Nat → Nat} {j : Nat} : ∀ {n : Nat}, j ≤ n → sgN j f ≤ sgN n f
  | 0, h => by obtain rfl : j = 0 := by omega
               exact Nat.le_refl _
  | n + 1, h => by
    by_cases e : j = n + 1
    · subst e; exact Nat.le_refl _
    · have := sgN_mono (f := f) (j := j) (n := n) (by omega)
      rw [sgN]; omega
theorem Asc.drop {fr : Ln → Int} : ∀ {ss : List Ln} {i : Nat}, Asc fr ss → Asc fr (ss.drop i)
  | [], i, _ => by simp [Asc]
  | _ :: _, 0, h => h
  | x :: ss, i + 1, h => by rw [List.drop_succ_cons]; exact Asc.drop h.2
end Go.Proofs.Try
