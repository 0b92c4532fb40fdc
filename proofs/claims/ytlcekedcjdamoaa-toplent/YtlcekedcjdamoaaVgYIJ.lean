/- A part of the proof of TopLent: contracts of functions, with plain laws that they need. -/
import Derived.Test.YtlcekedcjdamoaaVgFz
import Derived.Test.YtlcekedcjdamoaaVgAp
import Derived.Test.YtlcekedcjdamoaaVgEd
import Derived.Test.YtlcekedcjdamoaaVgT
import Derived.Test.YtlcekedcjdamoaaVgNl
import Derived.Test.YtlcekedcjdamoaaVgYHJ
set_option linter.all false
set_option maxHeartbeats 8000000
namespace Go.Proofs.Try
open Go.Vg

/-! a plan is right if it is right kind by kind -/
def cS (ks : List St) (ls : List Ln) (i : Nat) : Nat := (ks.getD (ls.getD i ln0).kind.toNat st0).items.toNat
def okS (ks : List St) (ls : List Ln) (p : List Int) : Bool := !wrongB ks ls p (p.length - 1)
/-- the items of some loans -/
def pick (L J : List Int) : List Int := L.map fun i => J.getD i.toNat 0
theorem pick_len (L J : List Int) : (pick L J).length = L.length := by simp [pick]
theorem pick_get {L J : List Int} {q : Nat} (h : q < L.length) : (pick L J).getD q 0 = J.getD (L.getD q 0).toNat 0 := by simp [pick, h]
theorem loanP_mono (ls : List Ln) (kind : Int) {n : Nat} : ∀ {N : Nat}, n ≤ N → ∃ R, loanP ls kind N = loanP ls kind n ++ R
  | 0, h => by obtain rfl : n = 0 := by omega
               exact ⟨[], by simp⟩
  | N + 1, h => by
    by_cases hn : n = N + 1
    · subst hn; exact ⟨[], by simp⟩
    · obtain ⟨R, hR⟩ := loanP_mono ls kind (n := n) (N := N) (by omega)
      rw [loanP_succ]
      split
      · exact ⟨R ++ [(N : Int)], by rw [hR, List.append_assoc]⟩
      · exact ⟨R, hR⟩
/-- the place of a loan among those of its kind -/
def plc (ls : List Ln) (kind : Int) (n : Nat) : Nat := (loanP ls kind n).length
theorem plc_succ (ls : List Ln) (kind : Int) (n : Nat) : plc ls kind (n + 1) = if (ls.getD n ln0).kind = kind then plc ls kind n + 1 else plc ls kind n := by
  unfold plc; rw [loanP_succ]
  by_cases h : (ls.getD n ln0).kind = kind
  · rw [if_pos (decide_eq_true h), if_pos h, List.length_append]; rfl
  · rw [if_neg (by rw [decide_eq_false h]; simp), if_neg h]
theorem loanP_at {ls : List Ln} {kind : Int} {n N : Nat} (h : n < N) (hk : (ls.getD n ln0).kind = kind) : plc ls kind n < (loanP ls kind N).length ∧ (loanP ls kind N).getD (plc ls kind n) 0 = (n : Int) := by
  obtain ⟨R, hR⟩ := loanP_mono ls kind (n := n + 1) (N := N) (by omega)
  have h1 : loanP ls kind (n + 1) = loanP ls kind n ++ [(n : Int)] := by rw [loanP_succ, if_pos (decide_eq_true hk)]
  rw [hR, h1]
  refine ⟨by simp [plc], ?_⟩
  rw [List.append_assoc]
  simp [plc]
theorem plc_at {ls : List Ln} {kind : Int} {N q : Nat} (h : q < (loanP ls kind N).length) : ∃ n : Nat, n < N ∧ (ls.getD n ln0).kind = kind ∧ (loanP ls kind N).getD q 0 = (n : Int) ∧ plc ls kind n = q := by
  induction N with
  | zero => simp [loanP] at h
  | succ N ih =>
    rw [loanP_succ] at h ⊢
    split at h
    · rename_i hk
      rw [if_pos hk]
      rw [List.length_append, List.length_singleton] at h
      by_cases hq : q < (loanP ls kind N).length
      · obtain ⟨n, h1, h2, h3, h4⟩ := ih hq
        exact ⟨n, by omega, h2, by rw [getD_left hq]; exact h3, h4⟩
      · obtain rfl : q = (loanP ls kind N).length := by omega
        exact ⟨N, by omega, of_decide_eq_true hk, by rw [getD_last], rfl⟩
    · rename_i hk
      rw [if_neg hk]
      obtain ⟨n, h1, h2, h3, h4⟩ := ih h
      exact ⟨n, by omega, h2, h3, h4⟩
section
variable {ks : List St} {ls : List Ln} {kind : Int}
theorem mate_iff {J : List Int} {i n : Nat} (hk : (ls.getD i ln0).kind = kind) : mateB ls J i n = true ↔ (ls.getD n ln0).kind = kind ∧ J.getD n 0 = J.getD i 0 := by
  unfold mateB; rw [Bool.and_eq_true, decide_eq_true_eq, decide_eq_true_eq, hk]
theorem sum_kind {J : List Int} {i : Nat} (hk : (ls.getD i ln0).kind = kind) : ∀ n, n ≤ ls.length → sumU ls J i n = sW (uL ls (loanP ls kind ls.length)) (pick (loanP ls kind ls.length) J) (J.getD i 0) (plc ls kind n)
  | 0, _ => rfl
  | n + 1, hn => by
    have ih := sum_kind (J := J) hk n (by omega)
    rw [plc_succ]
    simp only [sumU]
    by_cases h : (ls.getD n ln0).kind = kind
    · obtain ⟨h1, h2⟩ := loanP_at (N := ls.length) (by omega) h
      rw [if_pos h]
      simp only [sW]
      rw [pick_get h1, h2, Int.toNat_natCast]
      have hu : uL ls (loanP ls kind ls.length) (plc ls kind n) = (ls.getD n ln0).uses := by unfold uL; rw [h2, Int.toNat_natCast]
      by_cases h3 : J.getD n 0 = J.getD i 0
      · rw [if_pos ((mate_iff hk).2 ⟨h, h3⟩), if_pos h3, ih, hu]
      · rw [if_neg (fun hm => h3 ((mate_iff hk).1 hm).2), if_neg h3, ih]
    · rw [if_neg h, if_neg (fun hm => h ((mate_iff hk).1 hm).1), ih]
theorem clash_kind {J : List Int} {i : Nat} (hi : i < ls.length) (hk : (ls.getD i ln0).kind = kind) : ∀ n, n ≤ ls.length → clashB ls J i n = (lnI (pick (loanP ls kind ls.length) J) (J.getD i 0) (plc ls kind n)).any fun a => oL ls (loanP ls kind ls.length) a (plc ls kind i)
  | 0, _ => rfl
  | n + 1, hn => by
    have ih := clash_kind (J := J) hi hk n (by omega)
    rw [plc_succ]
    simp only [clashB]
    by_cases h : (ls.getD n ln0).kind = kind
    · obtain ⟨h1, h2⟩ := loanP_at (N := ls.length) (by omega) h
      obtain ⟨h4, h5⟩ := loanP_at (N := ls.length) hi hk
      rw [if_pos h, lnI_succ, pick_get h1, h2, Int.toNat_natCast]
      have ho : oL ls (loanP ls kind ls.length) (plc ls kind n) (plc ls kind i) = ovB (ls.getD n ln0) (ls.getD i ln0) := by unfold oL; rw [h2, h5, Int.toNat_natCast, Int.toNat_natCast]
      by_cases h3 : J.getD n 0 = J.getD i 0
      · rw [if_pos h3, List.any_append, ih, (mate_iff hk).2 ⟨h, h3⟩]
        simp [ho]
      · rw [if_neg h3, ih, show mateB ls J i n = false by rw [← Bool.not_eq_true]; exact fun hm => h3 ((mate_iff hk).1 hm).2]
        simp
    · rw [if_neg h, ih, show mateB ls J i n = false by rw [← Bool.not_eq_true]; exact fun hm => h ((mate_iff hk).1 hm).1]
      simp
theorem ok_take {J : List Int} {i : Nat} (hi : i < J.length) : okS ks ls (J.take (i + 1)) = !wrongB ks ls J i := by
  unfold okS
  rw [List.length_take, Nat.min_eq_left (by omega), Nat.add_sub_cancel, wrongB_take]
theorem okU_take {u : Nat → Int} {o : Nat → Nat → Bool} {life : Int} {J : List Int} {k : Nat} (h : k < J.length) : okU u o life (J.take (k + 1)) = (decide (sW u J (J.getD k 0) k + u k ≤ life) && !(lnI J (J.getD k 0) k).any fun i => o i k) := by
  have hl : (J.take k).length = k := by rw [List.length_take, Nat.min_eq_left (by omega)]
  have h1 := sW_left u (J.take k) (J.drop k) (J.getD k 0) (n := k) (by omega)
  have h2 := lnI_left (J.take k) (J.drop k) (J.getD k 0) (n := k) (by omega)
  rw [List.take_append_drop] at h1 h2
  rw [take_succ_getD h, okU_snoc, hl, h1, h2]
theorem ok_kind {J : List Int} (hJ : J.length = ls.length) {i : Nat} (hi : i < ls.length) (hk : (ls.getD i ln0).kind = kind) (h0 : 0 ≤ J.getD i 0) : okS ks ls (J.take (i + 1)) = okK ls (ks.getD kind.toNat st0).life (loanP ls kind ls.length) ((pick (loanP ls kind ls.length) J).take (plc ls kind i + 1)) := by
  obtain ⟨h1, h2⟩ := loanP_at (N := ls.length) hi hk
  rw [ok_take (by omega)]
  unfold okK
  rw [okU_take (by rw [pick_len]; exact h1), pick_get h1, h2, Int.toNat_natCast]
  unfold wrongB
  rw [decide_eq_false (show ¬ J.getD i 0 < 0 by omega), clash_kind hi hk i (by omega), sum_kind hk i (by omega), hk, Bool.false_or, Bool.not_or, Bool.and_comm]
  have hu : uL ls (loanP ls kind ls.length) (plc ls kind i) = (ls.getD i ln0).uses := by unfold uL; rw [h2, Int.toNat_natCast]
  rw [hu]
  congr 1
  rw [Bool.eq_iff_iff]
  simp only [Bool.not_eq_true', decide_eq_true_eq, decide_eq_false_iff_not]
  omega
end
/-- right in all kinds, and right -/
theorem right_kinds {ks : List St} {ls : List Ln} (hv : SV ks ls) {J : List Int} (hJ : J.length = ls.length) : RtF (cS ks ls) (okS ks ls) 0 J ↔ ∀ k : Nat, k < ks.length → RtF (fun _ => (ks.getD k st0).items.toNat) (okK ls (ks.getD k st0).life (loanP ls (k : Int) ls.length)) 0 (pick (loanP ls (k : Int) ls.length) J) := by
  constructor
  · intro h k hk q _ hq
    rw [pick_len] at hq
    obtain ⟨n, h1, h2, h3, h4⟩ := plc_at hq
    obtain ⟨j, h5, h6, h7⟩ := h n (by omega) (by omega)
    have hok := ok_kind (ks := ks) hJ h1 h2 (by omega)
    rw [Int.toNat_natCast] at hok
    refine ⟨j, ?_, by rw [pick_get hq, h3, Int.toNat_natCast]; exact h6, ?_⟩
    · unfold cS at h5; rw [h2, Int.toNat_natCast] at h5; exact h5
    · rw [← h4, ← hok]; exact h7
  · intro h i _ hi
    have hi : i < ls.length := by omega
    have hki := (hv.ln i hi).1
    obtain ⟨k, hk⟩ : ∃ k : Nat, (ls.getD i ln0).kind = (k : Int) := ⟨(ls.getD i ln0).kind.toNat, by omega⟩
    obtain ⟨h1, h2⟩ := loanP_at (N := ls.length) hi hk
    obtain ⟨j, h5, h6, h7⟩ := h k (by omega) (plc ls (k : Int) i) (by omega) (by rw [pick_len]; exact h1)
    rw [pick_get h1, h2, Int.toNat_natCast] at h6
    have hok := ok_kind (ks := ks) hJ hi hk (by omega)
    rw [Int.toNat_natCast] at hok
    refine ⟨j, ?_, h6, ?_⟩
    · unfold cS; rw [hk, Int.toNat_natCast]; exact h5
    · rw [hok]; exact h7
/-- what each kind says, put together -/
def glue (ls : List Ln) (f : Nat → List Int) (n : Nat) : List Int := (List.range n).map fun i => (f (ls.getD i ln0).kind.toNat).getD (plc ls (ls.getD i ln0).kind i) 0
theorem glue_len (ls : List Ln) (f : Nat → List Int) (n : Nat) : (glue ls f n).length = n := by simp [glue]
theorem glue_get {ls : List Ln} {f : Nat → List Int} {n i : Nat} (h : i < n) : (glue ls f n).getD i 0 = (f (ls.getD i ln0).kind.toNat).getD (plc ls (ls.getD i ln0).kind i) 0 := by simp [glue, h]
theorem pick_glue {ls : List Ln} {f : Nat → List Int} {k : Nat} (hf : (f k).length = (loanP ls (k : Int) ls.length).length) : pick (loanP ls (k : Int) ls.length) (glue ls f ls.length) = f k := by
  apply List.ext_getElem (by rw [pick_len, hf])
  intro q h1 h2
  rw [pick_len] at h1
  have e1 := pick_get (J := glue ls f ls.length) h1
  obtain ⟨n, h3, h4, h5, h6⟩ := plc_at h1
  rw [h5, Int.toNat_natCast, glue_get h3, h4, Int.toNat_natCast, h6] at e1
  simpa [List.getD_eq_getElem?_getD, h1, h2, pick_len] using e1
theorem pick_ext {ls : List Ln} {J J' : List Int} {k : Int} {q : Nat} (hq : q < (loanP ls k ls.length).length) {n : Nat} (hn : plc ls k n = q) (h : J.take n = J'.take n) : (pick (loanP ls k ls.length) J).take q = (pick (loanP ls k ls.length) J').take q := by
  have hl : ((loanP ls k ls.length).take q).length = q := by rw [List.length_take]; omega
  unfold pick
  rw [← List.map_take, ← List.map_take]
  apply List.map_congr_left
  intro x hx
  have hm : x ∈ loanP ls k n := by
    rcases Nat.le_total n ls.length with hnl | hnl
    · obtain ⟨R, hR⟩ := loanP_mono ls k hnl
      rw [hR, ← hn, plc, List.take_left'] at hx
      · exact hx
      · rfl
    · obtain ⟨R, hR⟩ := loanP_mono ls k hnl
      rw [hR]; exact List.mem_append_left _ (List.mem_of_mem_take hx)
  obtain ⟨i, rfl, hi, _⟩ := loanP_mem x hm
  rw [Int.toNat_natCast]
  have := congrArg (fun l => l.getD i 0) h
  simpa [List.getD_eq_getElem?_getD, List.getElem?_take, hi] using this
theorem getD_ext {J J' : List Int} (hl : J.length = J'.length) (h : ∀ i, i < J.length → J.getD i 0 = J'.getD i 0) : J = J' := by
  apply List.ext_getElem hl
  intro i h1 h2
  have := h i h1
  simpa [List.getD_eq_getElem?_getD, h1, h2] using this
theorem take_ext {J J' : List Int} {n : Nat} (hl : J.length = J'.length) (h : ∀ i, i < n → J.getD i 0 = J'.getD i 0) : J.take n = J'.take n := by
  apply getD_ext (by simp [hl])
  intro i hi
  have : i < n := by rw [List.length_take] at hi; omega
  have := h i this
  simp only [List.getD_eq_getElem?_getD, List.getElem?_take, *, if_true] at *
  exact this
/-- two lists of the same length: the first place where they differ -/
theorem first_diff : ∀ {n : Nat} (J J' : List Int), J.length = n → J'.length = n → J = J' ∨ ∃ i, i < n ∧ J.take i = J'.take i ∧ J.getD i 0 ≠ J'.getD i 0 := by
  intro n J J' h h'
  by_cases he : ∃ i, i < n ∧ J.getD i 0 ≠ J'.getD i 0
  · right
    have : ∀ m, (∃ i, i < m ∧ i < n ∧ J.getD i 0 ≠ J'.getD i 0) → ∃ i, i < n ∧ (∀ j, j < i → J.getD j 0 = J'.getD j 0) ∧ J.getD i 0 ≠ J'.getD i 0 := by
      intro m
      induction m with
      | zero => rintro ⟨i, h1, _⟩; omega
      | succ m ih =>
        rintro ⟨i, h1, h2, h3⟩
        by_cases hx : ∃ i, i < m ∧ i < n ∧ J.getD i 0 ≠ J'.getD i 0
        · exact ih hx
        · obtain rfl : i = m := by
            apply Classical.byContradiction
            intro hne; exact hx ⟨i, by omega, h2, h3⟩
          refine ⟨i, h2, fun j hj => ?_, h3⟩
          apply Classical.byContradiction
          intro hne; exact hx ⟨j, hj, by omega, hne⟩
    obtain ⟨i, h1, h2⟩ := he
    obtain ⟨i, h3, h4, h5⟩ := this n ⟨i, h1, h1, h2⟩
    exact ⟨i, h3, take_ext (by omega) h4, h5⟩
  · left
    apply getD_ext (by omega)
    intro i hi
    apply Classical.byContradiction
    intro hne; exact he ⟨i, by omega, hne⟩
/-- the first plan of all is the first one of each kind -/
theorem glue_first {ks : List St} {ls : List Ln} (hv : SV ks ls) {f : Nat → List Int} (h : ∀ k, k < ks.length → srch (fun _ => (ks.getD k st0).items.toNat) (okK ls (ks.getD k st0).life (loanP ls (k : Int) ls.length)) (loanP ls (k : Int) ls.length).length [] = some (f k)) : srch (cS ks ls) (okS ks ls) ls.length [] = some (glue ls f ls.length) := by
  have hfl : ∀ k, k < ks.length → (f k).length = (loanP ls (k : Int) ls.length).length := fun k hk => by have := (srch_some (h k hk)).1.1; simpa using this
  have hgl := glue_len ls f ls.length
  refine srch_eq ⟨by simp [hgl], by simp, (right_kinds hv hgl).2 fun k hk => ?_⟩ ?_
  · rw [pick_glue (hfl k hk)]
    exact (srch_some (h k hk)).1.2.2
  · rintro J ⟨h1, h2, h3⟩
    have h1 : J.length = ls.length := by simpa using h1
    rcases first_diff (n := ls.length) (glue ls f ls.length) J hgl h1 with he | ⟨i, h4, h5, h6⟩
    · exact .inl he
    · right
      refine ⟨i, by rw [hgl]; exact h4, h5, ?_⟩
      have hki := (hv.ln i h4).1
      obtain ⟨k, hk⟩ : ∃ k : Nat, (ls.getD i ln0).kind = (k : Int) := ⟨(ls.getD i ln0).kind.toNat, by omega⟩
      have hkk : k < ks.length := by omega
      obtain ⟨g1, g2⟩ := loanP_at (N := ls.length) h4 hk
      have hpg := pick_glue (hfl k hkk)
      have hsm := (srch_some (h k hkk)).2 (pick (loanP ls (k : Int) ls.length) J) ⟨by simp [pick_len], by simp, (right_kinds hv h1).1 h3 k hkk⟩
      have hpe := pick_ext g1 rfl h5
      rw [hpg] at hpe
      have hgi : (f k).getD (plc ls (k : Int) i) 0 = (glue ls f ls.length).getD i 0 := by rw [glue_get h4, hk, Int.toNat_natCast]
      have hpi : (pick (loanP ls (k : Int) ls.length) J).getD (plc ls (k : Int) i) 0 = J.getD i 0 := by rw [pick_get g1, g2, Int.toNat_natCast]
      rcases hsm with e | ⟨a, a1, a2, a3⟩
      · rw [e] at hgi; rw [hgi] at hpi; exact absurd hpi h6
      · have hg : ∀ {A B : List Int} {n m : Nat}, A.take n = B.take n → m < n → A.getD m 0 = B.getD m 0 := by
          intro A B n m e hm
          have := congrArg (fun l => l.getD m 0) e
          simpa [List.getD_eq_getElem?_getD, List.getElem?_take, hm] using this
        rcases Nat.lt_trichotomy a (plc ls (k : Int) i) with h7 | h7 | h7
        · have := hg hpe h7; omega
        · subst h7; omega
        · have := hg a2 h7; omega
end Go.Proofs.Try
set_option maxHeartbeats 8000000
namespace Go.Proofs.Try
open Go.Vg

/-! a store of one kind alone -/
end Go.Proofs.Try
set_option maxHeartbeats 8000000
namespace Go.Proofs.Try
open Go.Vg

/-! the document's list of all right plans -/
end Go.Proofs.Try
set_option maxHeartbeats 8000000
namespace Go.Proofs.Try
open Go.Vg

/-! the document's store of one kind -/
end Go.Proofs.Try
set_option maxHeartbeats 8000000
namespace Go.Proofs.Try
open Go.Vg

/-! how many items the document says are needed -/
end Go.Proofs.Try
set_option maxHeartbeats 8000000
namespace Go.Proofs.Try
open Go.Vg

/-! stores that the statements do not try -/
end Go.Proofs.Try
namespace Go.Proofs.Try
open Go.Vg
end Go.Proofs.Try
set_option maxHeartbeats 8000000
namespace Go.Proofs.Try
open Go.Vg

/-! Peak, Need and Buy -/
end Go.Proofs.Try
set_option maxHeartbeats 8000000
namespace Go.Proofs.Try
open Go.Vg

/-! what Plan does for each kind -/
abbrev refS (ks : List St) (ls : List Ln) : AV := .ref [.lst 2 (ks.map stA), .lst 5 (ls.map lnA)] 0
def srK (ks : List St) (ls : List Ln) (k : Nat) : Option (List Int) := srch (fun _ => (ks.getD k st0).items.toNat) (okK ls (ks.getD k st0).life (loanP ls (k : Int) ls.length)) (loanP ls (k : Int) ls.length).length []
theorem planDo_spec {ks : List St} {ls : List Ln} (hv : SV ks ls) {k : Nat} (hk : k < ks.length) {F : Mem} {N : Nat} (hF : F.length = N) (e0 e4 : Ent) :
    Go.Vg.Spec Try.prog 27 [.optr (N + 3) 1 0 0, .int k, refS ks ls] (F ++ blk N ks ls e0 e4 (ks.getD k st0).life (loanP ls (k : Int) ls.length) 0 [] (List.replicate (ks.getD k st0).items.toNat 0) (T0 (ks.getD k st0).items.toNat) [])
      (FsQ F [] N ks ls e0 e4 (ks.getD k st0).life (loanP ls (k : Int) ls.length) (ks.getD k st0).items.toNat [] (srK ks ls k)) := by
  have hl20 := hv.l20
  have hst := hv.st k hk
  have hps := possible_pure hv (k : Int) (ks.getD k st0).items (by omega) (by omega)
  rw [psV_ex hv (by omega) (by omega), Int.toNat_natCast] at hps
  have hLl := loanP_len ls (k : Int) ls.length
  have hLi := loanP_in ls (k : Int)
  have hfs := first_spec hv (ks.getD k st0).life hLi (by omega) (n := (ks.getD k st0).items.toNat) (by omega) (loanP ls (k : Int) ls.length).length (F := F) (G := []) (N := N) hF (e0 := e0) (e4 := e4) (vi := 0) (I := []) (T := T0 (ks.getD k st0).items.toNat) (by simp) (by simp) (fun a b _ h => by simp at h) (tO_nil (loanP ls (k : Int) ls.length) (ks.getD k st0).items.toNat)
  have hw0 := wO_nil ls (loanP ls (k : Int) ls.length) (ks.getD k st0).items.toNat
  have hT0 := tO_nil (loanP ls (k : Int) ls.length) (ks.getD k st0).items.toNat
  have hps : Pure Try.prog 28 [storA ks ls, .int k, .int (ks.getD k st0).items.toNat] (.bool (srK ks ls k).isSome) := by
    rw [Int.toNat_of_nonneg (by omega)]; exact hps
  have hfs : Go.Vg.Spec Try.prog 29 [.optr (N + 3) 1 0 0] (F ++ blk N ks ls e0 e4 (ks.getD k st0).life (loanP ls (k : Int) ls.length) 0 [] (List.replicate (ks.getD k st0).items.toNat 0) (T0 (ks.getD k st0).items.toNat) []) (FsQ F [] N ks ls e0 e4 (ks.getD k st0).life (loanP ls (k : Int) ls.length) (ks.getD k st0).items.toNat [] (srK ks ls k)) := by
    rw [hw0] at hfs; exact hfs
  have hQn : srK ks ls k = none → FsQ F [] N ks ls e0 e4 (ks.getD k st0).life (loanP ls (k : Int) ls.length) (ks.getD k st0).items.toNat [] (srK ks ls k) (.bool false) (F ++ blk N ks ls e0 e4 (ks.getD k st0).life (loanP ls (k : Int) ls.length) 0 [] (List.replicate (ks.getD k st0).items.toNat 0) (T0 (ks.getD k st0).items.toNat) []) := fun h => ⟨0, _, .inr ⟨h, rfl, hT0, by rw [hw0]⟩⟩
  have hQx : ∀ {x m'}, FsQ F [] N ks ls e0 e4 (ks.getD k st0).life (loanP ls (k : Int) ls.length) (ks.getD k st0).items.toNat [] (srK ks ls k) x m' → x = .bool (srK ks ls k).isSome := by
    rintro x m' ⟨vi', T', ⟨J, h1, h2, _⟩ | ⟨h1, h2, _⟩⟩
    · rw [h1, h2]; rfl
    · rw [h1, h2]; rfl
  generalize FsQ F [] N ks ls e0 e4 (ks.getD k st0).life (loanP ls (k : Int) ls.length) (ks.getD k st0).items.toNat [] (srK ks ls k) = Q at hfs hQn hQx
  generalize srK ks ls k = s at hps hQn hQx
  generalize hn : (ks.getD k st0).items.toNat = n at *
  generalize (ks.getD k st0).life = life at *
  have hTl : (T0 n).length = n := by simp [T0]
  generalize hTT : T0 n = T at *
  cases s with
  | none =>
    have hQn := hQn rfl
    simp only [Option.isSome_none] at hps
    (refine Spec.of_bodyA Try.func27 rfl (by rw [Try.ntmps27]; simp) ?_; rw [Try.results27, Try.ntmps27]; simp only [entry, zipArgs, Nat.reduceAdd])
    repeat (first | apply Wp.seq | apply Wp.block | (apply Run.next; (simp only [push_cast, seval, getF hF, getF0 hF, get7, lentR_len, hTl] <;> (try simp (disch := omega) only [wI, wU, wC]) <;> exact rfl); (focus ((try simp only [push_cast, seval, getF hF, getF0 hF, get7, lentR_len, hTl]) <;> exact sT))) | ((first | apply Run.nil | apply Wp.skip); dsimp only [sQ, tQ, bQ]) | (apply Wp.run; (dsimp only [List.map] <;> exact rfl); exact rfl) | (apply Wp.exit; dsimp only [sQ, tQ, bQ]; simp only [reduceIte]))
    (apply Wp.runD 8 mixed; (dsimp only [List.map] <;> exact rfl); exact rfl; kernel_rfl; (dsimp only [List.take] <;> exact rfl); (dsimp only [List.drop] <;> exact rfl); (((repeat (apply Abn.next; (simp only [push_cast, seval, getF hF, getF0 hF, get7, lentR_len, hTl] <;> (try simp (disch := omega) only [wI, wU, wC]) <;> exact rfl); (focus ((try simp only [push_cast, seval, getF hF, getF0 hF, get7, lentR_len, hTl]) <;> exact sT)))); (apply Abn.pureP; (simp only [push_cast, seval, getF hF, getF0 hF, get7, lentR_len, hTl] <;> (try simp (disch := omega) only [wI, wU, wC]) <;> exact rfl); (exact (Enters.of Try.func28 rfl rfl)); (exact hps); (focus (simp only [push_cast, seval, getF hF, getF0 hF, get7, lentR_len, hTl] <;> first | trivial | assumption | (refine ⟨?_, ?_⟩ <;> assumption) | (simp; done))); (try dsimp only [putA, optG])); (repeat (apply Abn.next; (simp only [push_cast, seval, getF hF, getF0 hF, get7, lentR_len, hTl] <;> (try simp (disch := omega) only [wI, wU, wC]) <;> exact rfl); (focus ((try simp only [push_cast, seval, getF hF, getF0 hF, get7, lentR_len, hTl]) <;> exact sT))))); exact Abn.nil))
    repeat (first | apply Wp.seq | apply Wp.block | (apply Run.next; (simp only [push_cast, seval, getF hF, getF0 hF, get7, lentR_len, hTl] <;> (try simp (disch := omega) only [wI, wU, wC]) <;> exact rfl); (focus ((try simp only [push_cast, seval, getF hF, getF0 hF, get7, lentR_len, hTl]) <;> exact sT))) | ((first | apply Run.nil | apply Wp.skip); dsimp only [sQ, tQ, bQ]) | (apply Wp.run; (dsimp only [List.map] <;> exact rfl); exact rfl) | (apply Wp.exit; dsimp only [sQ, tQ, bQ]; simp only [reduceIte]) | (apply Run.gtrue; (simp only [push_cast, seval, getF hF, getF0 hF, get7, lentR_len, hTl] <;> (try simp (disch := omega) only [wI, wU, wC]) <;> exact rfl); (simp only [push_cast, seval, getF hF, getF0 hF, get7, lentR_len, hTl] <;> (try simp (disch := omega) only [wI, wU, wC]) <;> exact rfl)) | (apply Run.gfalse (.bool false); (simp only [push_cast, seval, getF hF, getF0 hF, get7, lentR_len, hTl] <;> (try simp (disch := omega) only [wI, wU, wC]) <;> exact rfl); dsimp only [S.put, optG]) | (apply Wp.condT; (simp only [push_cast, seval, getF hF, getF0 hF, get7, lentR_len, hTl] <;> (try simp (disch := omega) only [wI, wU, wC]) <;> exact rfl)) | (apply Wp.condF; (simp only [push_cast, seval, getF hF, getF0 hF, get7, lentR_len, hTl] <;> (try simp (disch := omega) only [wI, wU, wC]) <;> exact rfl)))
    (apply Wp.ret; (try dsimp only [sQ, tQ, bQ]); apply leaveA; exact rfl; (simp only [push_cast, seval, getF hF, getF0 hF, get7, lentR_len, hTl] <;> (try simp (disch := omega) only [wI, wU, wC]) <;> exact rfl); (focus (first | (simp only [push_cast, seval, getF hF, getF0 hF, get7, lentR_len, hTl]; done) | trivial | (simp only [push_cast, seval, getF hF, getF0 hF, get7, lentR_len, hTl]; trivial) | (simp; done))); (try simp only [push_cast, seval, getF hF, getF0 hF, get7, lentR_len, hTl]))
    exact hQn
  | some J =>
    simp only [Option.isSome_some] at hps hQx
    (refine Spec.of_bodyA Try.func27 rfl (by rw [Try.ntmps27]; simp) ?_; rw [Try.results27, Try.ntmps27]; simp only [entry, zipArgs, Nat.reduceAdd])
    repeat (first | apply Wp.seq | apply Wp.block | (apply Run.next; (simp only [push_cast, seval, getF hF, getF0 hF, get7, lentR_len, hTl] <;> (try simp (disch := omega) only [wI, wU, wC]) <;> exact rfl); (focus ((try simp only [push_cast, seval, getF hF, getF0 hF, get7, lentR_len, hTl]) <;> exact sT))) | ((first | apply Run.nil | apply Wp.skip); dsimp only [sQ, tQ, bQ]) | (apply Wp.run; (dsimp only [List.map] <;> exact rfl); exact rfl) | (apply Wp.exit; dsimp only [sQ, tQ, bQ]; simp only [reduceIte]))
    (apply Wp.runD 8 mixed; (dsimp only [List.map] <;> exact rfl); exact rfl; kernel_rfl; (dsimp only [List.take] <;> exact rfl); (dsimp only [List.drop] <;> exact rfl); (((repeat (apply Abn.next; (simp only [push_cast, seval, getF hF, getF0 hF, get7, lentR_len, hTl] <;> (try simp (disch := omega) only [wI, wU, wC]) <;> exact rfl); (focus ((try simp only [push_cast, seval, getF hF, getF0 hF, get7, lentR_len, hTl]) <;> exact sT)))); (apply Abn.pureP; (simp only [push_cast, seval, getF hF, getF0 hF, get7, lentR_len, hTl] <;> (try simp (disch := omega) only [wI, wU, wC]) <;> exact rfl); (exact (Enters.of Try.func28 rfl rfl)); (exact hps); (focus (simp only [push_cast, seval, getF hF, getF0 hF, get7, lentR_len, hTl] <;> first | trivial | assumption | (refine ⟨?_, ?_⟩ <;> assumption) | (simp; done))); (try dsimp only [putA, optG])); (repeat (apply Abn.next; (simp only [push_cast, seval, getF hF, getF0 hF, get7, lentR_len, hTl] <;> (try simp (disch := omega) only [wI, wU, wC]) <;> exact rfl); (focus ((try simp only [push_cast, seval, getF hF, getF0 hF, get7, lentR_len, hTl]) <;> exact sT))))); exact Abn.nil))
    repeat (first | apply Wp.seq | apply Wp.block | (apply Run.next; (simp only [push_cast, seval, getF hF, getF0 hF, get7, lentR_len, hTl] <;> (try simp (disch := omega) only [wI, wU, wC]) <;> exact rfl); (focus ((try simp only [push_cast, seval, getF hF, getF0 hF, get7, lentR_len, hTl]) <;> exact sT))) | ((first | apply Run.nil | apply Wp.skip); dsimp only [sQ, tQ, bQ]) | (apply Wp.run; (dsimp only [List.map] <;> exact rfl); exact rfl) | (apply Wp.exit; dsimp only [sQ, tQ, bQ]; simp only [reduceIte]) | (apply Run.gtrue; (simp only [push_cast, seval, getF hF, getF0 hF, get7, lentR_len, hTl] <;> (try simp (disch := omega) only [wI, wU, wC]) <;> exact rfl); (simp only [push_cast, seval, getF hF, getF0 hF, get7, lentR_len, hTl] <;> (try simp (disch := omega) only [wI, wU, wC]) <;> exact rfl)) | (apply Run.gfalse (.bool false); (simp only [push_cast, seval, getF hF, getF0 hF, get7, lentR_len, hTl] <;> (try simp (disch := omega) only [wI, wU, wC]) <;> exact rfl); dsimp only [S.put, optG]) | (apply Wp.condT; (simp only [push_cast, seval, getF hF, getF0 hF, get7, lentR_len, hTl] <;> (try simp (disch := omega) only [wI, wU, wC]) <;> exact rfl)) | (apply Wp.condF; (simp only [push_cast, seval, getF hF, getF0 hF, get7, lentR_len, hTl] <;> (try simp (disch := omega) only [wI, wU, wC]) <;> exact rfl)))
    apply Run.spec (he := Enters.of Try.func29 rfl rfl) (hc := hfs)
    focus exact rfl
    focus (simp only [push_cast, seval, getF hF, getF0 hF, get7, lentR_len, hTl] <;> exact rfl)
    focus (simp only [push_cast, seval, getF hF, getF0 hF, get7, lentR_len, hTl] <;> (try simp (disch := omega) only [wI, wU, wC]) <;> exact rfl)
    intro x' m' hq
    obtain rfl := hQx hq
    dsimp only [S.put, optG]
    repeat (first | apply Wp.seq | apply Wp.block | (apply Run.next; (simp only [push_cast, seval, getF hF, getF0 hF, get7, lentR_len, hTl] <;> (try simp (disch := omega) only [wI, wU, wC]) <;> exact rfl); (focus ((try simp only [push_cast, seval, getF hF, getF0 hF, get7, lentR_len, hTl]) <;> exact sT))) | ((first | apply Run.nil | apply Wp.skip); dsimp only [sQ, tQ, bQ]) | (apply Wp.run; (dsimp only [List.map] <;> exact rfl); exact rfl) | (apply Wp.exit; dsimp only [sQ, tQ, bQ]; simp only [reduceIte]) | (apply Run.gtrue; (simp only [push_cast, seval, getF hF, getF0 hF, get7, lentR_len, hTl] <;> (try simp (disch := omega) only [wI, wU, wC]) <;> exact rfl); (simp only [push_cast, seval, getF hF, getF0 hF, get7, lentR_len, hTl] <;> (try simp (disch := omega) only [wI, wU, wC]) <;> exact rfl)) | (apply Run.gfalse (.bool false); (simp only [push_cast, seval, getF hF, getF0 hF, get7, lentR_len, hTl] <;> (try simp (disch := omega) only [wI, wU, wC]) <;> exact rfl); dsimp only [S.put, optG]) | (apply Wp.condT; (simp only [push_cast, seval, getF hF, getF0 hF, get7, lentR_len, hTl] <;> (try simp (disch := omega) only [wI, wU, wC]) <;> exact rfl)) | (apply Wp.condF; (simp only [push_cast, seval, getF hF, getF0 hF, get7, lentR_len, hTl] <;> (try simp (disch := omega) only [wI, wU, wC]) <;> exact rfl)))
    (apply Wp.ret; (try dsimp only [sQ, tQ, bQ]); apply leaveA; exact rfl; (simp only [push_cast, seval, getF hF, getF0 hF, get7, lentR_len, hTl] <;> (try simp (disch := omega) only [wI, wU, wC]) <;> exact rfl); (focus (first | (simp only [push_cast, seval, getF hF, getF0 hF, get7, lentR_len, hTl]; done) | trivial | (simp only [push_cast, seval, getF hF, getF0 hF, get7, lentR_len, hTl]; trivial) | (simp; done))); (try simp only [push_cast, seval, getF hF, getF0 hF, get7, lentR_len, hTl]))
    exact hq
end Go.Proofs.Try
set_option maxHeartbeats 8000000
namespace Go.Proofs.Try
open Go.Vg

/-! the plan, kind by kind -/
/-- the items of the kinds before k, and of the first q loans of the kind k -/
def plQ (ls : List Ln) (f : Nat → List Int) (k q : Nat) : List Int := (List.range ls.length).map fun i => if (ls.getD i ln0).kind < (k : Int) ∨ ((ls.getD i ln0).kind = (k : Int) ∧ plc ls (ls.getD i ln0).kind i < q) then (f (ls.getD i ln0).kind.toNat).getD (plc ls (ls.getD i ln0).kind i) 0 else 0
theorem plQ_len (ls : List Ln) (f : Nat → List Int) (k q : Nat) : (plQ ls f k q).length = ls.length := by simp [plQ]
theorem plQ_zero {ks : List St} {ls : List Ln} (hv : SV ks ls) (f : Nat → List Int) : plQ ls f 0 0 = List.replicate ls.length 0 := by
  apply List.ext_getElem (by simp [plQ])
  intro i h1 h2
  have hi : i < ls.length := by simpa [plQ] using h1
  have := (hv.ln i hi).1
  simp only [plQ, List.getElem_map, List.getElem_range, List.getElem_replicate]
  rw [if_neg (by omega)]
theorem plQ_next (ls : List Ln) (f : Nat → List Int) (k : Nat) : plQ ls f k (loanP ls (k : Int) ls.length).length = plQ ls f (k + 1) 0 := by
  apply List.ext_getElem (by simp [plQ])
  intro i h1 h2
  have hi : i < ls.length := by simpa [plQ] using h1
  simp only [plQ, List.getElem_map, List.getElem_range]
  by_cases hk : (ls.getD i ln0).kind = (k : Int)
  · have := (loanP_at (N := ls.length) hi hk).1
    rw [hk, if_pos (by right; exact ⟨rfl, this⟩), if_pos (by left; omega)]
  · by_cases hk2 : (ls.getD i ln0).kind < (k : Int)
    · rw [if_pos (.inl hk2), if_pos (by left; omega)]
    · rw [if_neg (by omega), if_neg (by omega)]
theorem plQ_set {ls : List Ln} (f : Nat → List Int) {k q : Nat} (hq : q < (loanP ls (k : Int) ls.length).length) : plQ ls f k (q + 1) = (plQ ls f k q).set ((loanP ls (k : Int) ls.length).getD q 0).toNat ((f k).getD q 0) := by
  obtain ⟨n, h1, h2, h3, h4⟩ := plc_at hq
  rw [h3, Int.toNat_natCast]
  apply List.ext_getElem (by simp [plQ])
  intro i h5 h6
  have hi : i < ls.length := by simpa [plQ] using h5
  rw [List.getElem_set]
  simp only [plQ, List.getElem_map, List.getElem_range]
  by_cases hin : n = i
  · subst hin
    rw [if_pos rfl, if_pos (by right; rw [h2]; exact ⟨rfl, by omega⟩), h2, h4, Int.toNat_natCast]
  · rw [if_neg hin]
    by_cases hk : (ls.getD i ln0).kind = (k : Int)
    · have hne : plc ls (k : Int) i ≠ q := fun he => by
        have h7 := (loanP_at (N := ls.length) hi hk).2
        rw [he, h3] at h7
        omega
      rw [hk]
      by_cases hp : plc ls (k : Int) i < q
      · rw [if_pos (by right; exact ⟨rfl, by omega⟩), if_pos (by right; exact ⟨rfl, hp⟩)]
      · rw [if_neg (by omega), if_neg (by omega)]
    · by_cases hk2 : (ls.getD i ln0).kind < (k : Int)
      · rw [if_pos (.inl hk2), if_pos (.inl hk2)]
      · rw [if_neg (by omega), if_neg (by omega)]
theorem plQ_end {ks : List St} {ls : List Ln} (hv : SV ks ls) (f : Nat → List Int) : plQ ls f ks.length 0 = glue ls f ls.length := by
  apply List.ext_getElem (by simp [plQ, glue])
  intro i h1 h2
  have hi : i < ls.length := by simpa [plQ] using h1
  have := (hv.ln i hi).1
  simp only [plQ, glue, List.getElem_map, List.getElem_range]
  rw [if_pos (by left; omega)]
/-- the memory in front of the benches -/
def eF (e0 e2 : Ent) (G : Mem) (r : List Int) : Mem := e0 :: ⟨0, .row 1 (r.map AV.int)⟩ :: e2 :: G
theorem eF_len (e0 e2 : Ent) (G : Mem) (r : List Int) : (eF e0 e2 G r).length = G.length + 3 := rfl
theorem eF_0 (e0 e2 : Ent) (G : Mem) (r : List Int) : (eF e0 e2 G r)[0]? = some e0 := rfl
theorem eF_1 (e0 e2 : Ent) (G : Mem) (r : List Int) : (eF e0 e2 G r)[1]? = some ⟨0, .row 1 (r.map AV.int)⟩ := rfl
theorem eF_2 (e0 e2 : Ent) (G : Mem) (r : List Int) : (eF e0 e2 G r)[2]? = some e2 := rfl
theorem eF_s2 (e0 e2 e : Ent) (G : Mem) (r : List Int) : (eF e0 e2 G r).set 2 e = eF e0 e G r := rfl
theorem eFa_0 (e0 e2 : Ent) (G B : Mem) (r : List Int) : (eF e0 e2 G r ++ B)[0]? = some e0 := rfl
theorem eFa_1 (e0 e2 : Ent) (G B : Mem) (r : List Int) : (eF e0 e2 G r ++ B)[1]? = some ⟨0, .row 1 (r.map AV.int)⟩ := rfl
theorem eFa_2 (e0 e2 : Ent) (G B : Mem) (r : List Int) : (eF e0 e2 G r ++ B)[2]? = some e2 := rfl
theorem eF_app (e0 e2 : Ent) (G B : Mem) (r : List Int) : eF e0 e2 G r ++ B = eF e0 e2 (G ++ B) r := rfl
def EachQ (ks : List St) (ls : List Ln) (x : AV) (m' : Mem) : Prop := m' = [] ∧ (((∃ k, k < ks.length ∧ srK ks ls k = none) ∧ x = .nil) ∨ ((∀ k, k < ks.length → (srK ks ls k).isSome = true) ∧ ((ls ≠ [] ∧ x = .ints (glue ls (fun k => (srK ks ls k).getD []) ls.length)) ∨ (ls = [] ∧ ∃ A, x = .non A))))
theorem eachP_spec {ks : List St} {ls : List Ln} (hv : SV ks ls) : Go.Vg.Spec Try.prog 26 [storA ks ls, .clo 27 [refS ks ls]] [] (EachQ ks ls) := by
  have hl20 := hv.l20
  have hk8 := hv.k8
  have hQn : ∀ {k}, k < ks.length → srK ks ls k = none → EachQ ks ls .nil [] := fun hk h => ⟨rfl, .inl ⟨⟨_, hk, h⟩, rfl⟩⟩
  by_cases hls : ls = []
  · subst hls
    have hQs : ∀ A, (∀ k, k < ks.length → (srK ks [] k).isSome = true) → EachQ ks [] (.non A) [] := fun A h => ⟨rfl, .inr ⟨h, .inr ⟨rfl, A, rfl⟩⟩⟩
    generalize EachQ ks [] = Q at hQn hQs
    (refine Spec.of_body Try.func26 rfl (by rw [Try.ntmps26]; simp) 0 (by simp) ?_; rw [Try.results26, Try.ntmps26]; simp only [entry, zipArgs, Nat.reduceAdd])
    repeat (first | apply Wp.seq | apply Wp.block)
    (apply Wp.run; (dsimp only [List.map] <;> exact rfl); exact rfl)
    (apply Run.next; (simp only [push_cast, seval] <;> (try simp (disch := omega) only [wI, wU, wC]) <;> exact rfl); (focus ((try simp only [push_cast, seval]) <;> exact sT)))
    repeat (first | apply Wp.seq | apply Wp.block | (apply Run.calm; exact rfl; (simp only [push_cast, seval] <;> (try simp (disch := omega) only [wI, wU, wC]) <;> exact rfl); (focus ((try simp only [push_cast, seval]) <;> exact sT))) | ((first | apply Run.nil | apply Wp.skip); dsimp only [sQ, tQ, bQ]) | (apply Wp.run; (dsimp only [List.map] <;> exact rfl); exact rfl) | (apply Wp.exit; dsimp only [sQ, tQ, bQ]; simp only [reduceIte]))
    refine Run.make0 (e := 3) (z := .int 0) (by simp only [push_cast, seval]) (by simp only [push_cast, seval]) (by simp only [push_cast, seval]) (by simp only [push_cast, seval]) (by simp only [push_cast, seval]) fun A => ?_
    have hQs := hQs A
    dsimp only [putA]
    repeat (first | apply Wp.seq | apply Wp.block | (apply Run.next; (simp only [push_cast, seval] <;> (try simp (disch := omega) only [wI, wU, wC]) <;> exact rfl); (focus ((try simp only [push_cast, seval]) <;> exact sT))) | ((first | apply Run.nil | apply Wp.skip); dsimp only [sQ, tQ, bQ]) | (apply Wp.run; (dsimp only [List.map] <;> exact rfl); exact rfl) | (apply Wp.exit; dsimp only [sQ, tQ, bQ]; simp only [reduceIte]))
    (refine Wp.vacs 2 ?_; (try simp only [List.replicate_succ, List.replicate_zero, List.cons_append, List.nil_append]))
    refine Wp.loop (fun (q : Nat × Nat × Kind × Mem) => { t := [(1, .clo 27 [refS ks []]), (2, .optr 0 0 0 0), (5, .non A), (16, .lst 2 (ks.map stA)), (17, .int ks.length), (18, .int q.1)], m := eF ⟨0, .row 2 [storA ks []]⟩ ⟨q.2.1, q.2.2.1⟩ q.2.2.2 [], n := 56 }) (fun q => q.1 ≤ ks.length ∧ ∀ k, k < q.1 → (srK ks [] k).isSome = true) (fun q => ks.length - q.1) (0, 0, .row 1 [], []) ?_ ?_ ?_
    · (refine Le.of ?_ ?_ rfl rfl <;> (try simp only [push_cast, seval]) <;> (try (with_reducible rfl)))
      all_goals rfl
    · simp
    · rintro ⟨k, v, kd, G⟩ ⟨hk1, hk2⟩
      simp only at hk1 hk2
      repeat (first | apply Wp.seq | apply Wp.block | (apply Run.calm; exact rfl; (simp only [push_cast, seval] <;> (try simp (disch := omega) only [wI, wU, wC]) <;> exact rfl); (focus ((try simp only [push_cast, seval]) <;> exact sT))) | ((first | apply Run.nil | apply Wp.skip); dsimp only [sQ, tQ, bQ]) | (apply Wp.run; (dsimp only [List.map] <;> exact rfl); exact rfl) | (apply Wp.exit; dsimp only [sQ, tQ, bQ]; simp only [reduceIte]))
      (apply Wp.cond; (simp only [push_cast, seval] <;> (try simp (disch := omega) only [wI, wU, wC]) <;> exact rfl))
      · intro hc
        simp only [decide_eq_true_eq, Int.ofNat_lt] at hc
        have hs := hv.st k hc
        have hnb := newBench_spec hv (k : Int) (ks.getD k st0).items (by omega) (by omega)
        rw [Int.toNat_natCast, show loanP ([] : List Ln) (k : Int) ([] : List Ln).length = [] from rfl] at hnb
        have hdo := fun (F : Mem) (N : Nat) (hF : F.length = N) (e4 : Ent) => planDo_spec hv hc hF ⟨0, .row 2 [storA ks []]⟩ e4
        rw [show loanP ([] : List Ln) (k : Int) ([] : List Ln).length = [] from rfl] at hdo
        generalize hy : ks.getD k st0 = y at hs hnb hdo
        repeat (first | apply Wp.seq | apply Wp.block | (apply Run.calm; exact rfl; (simp only [push_cast, seval, hy, eF_len, eF_0, eF_1, eF_2, eF_s2] <;> (try simp (disch := omega) only [wI, wU, wC]) <;> exact rfl); (focus ((try simp only [push_cast, seval, hy, eF_len, eF_0, eF_1, eF_2, eF_s2]) <;> exact sT))) | ((first | apply Run.nil | apply Wp.skip); dsimp only [sQ, tQ, bQ]) | (apply Wp.run; (dsimp only [List.map] <;> exact rfl); exact rfl) | (apply Wp.exit; dsimp only [sQ, tQ, bQ]; simp only [reduceIte]))
        (apply Run.alcAt 2; (simp only [push_cast, seval, hy, eF_len, eF_0, eF_1, eF_2, eF_s2] <;> (try simp (disch := omega) only [wI, wU, wC]) <;> exact rfl); (focus ((try simp only [push_cast, seval, hy, eF_len, eF_0, eF_1, eF_2, eF_s2]) <;> exact sT)); exact rfl; (try simp only [push_cast, seval, hy, eF_len, eF_0, eF_1, eF_2, eF_s2]))
        repeat (first | apply Wp.seq | apply Wp.block | (apply Run.calm; exact rfl; (simp only [push_cast, seval, hy, eF_len, eF_0, eF_1, eF_2, eF_s2] <;> (try simp (disch := omega) only [wI, wU, wC]) <;> exact rfl); (focus ((try simp only [push_cast, seval, hy, eF_len, eF_0, eF_1, eF_2, eF_s2]) <;> exact sT))) | ((first | apply Run.nil | apply Wp.skip); dsimp only [sQ, tQ, bQ]) | (apply Wp.run; (dsimp only [List.map] <;> exact rfl); exact rfl) | (apply Wp.exit; dsimp only [sQ, tQ, bQ]; simp only [reduceIte]))
        apply Run.fresh (he := Enters.of Try.func53 rfl rfl)
        focus (simp only [push_cast, seval, hy, eF_len, eF_0, eF_1, eF_2, eF_s2] <;> exact rfl)
        focus (simp only [push_cast, seval, hy, eF_len, eF_0, eF_1, eF_2, eF_s2] <;> (try simp (disch := omega) only [wI, wU, wC]) <;> exact rfl)
        exact hnb
        focus (focus (simp only [push_cast, seval, hy, eF_len, eF_0, eF_1, eF_2, eF_s2] <;> first | trivial | assumption | (refine ⟨?_, ?_⟩ <;> assumption) | (simp; done)))
        rintro x m' ⟨rfl, e4, rfl⟩
        have hsh := blk_shift (G.length + 3) (ks := ks) (ls := []) (e4 := e4) (life := y.life) (L := []) (vi := 0) (I := []) (W := List.replicate y.items.toNat 0) (T := T0 y.items.toNat)
        simp only [shE] at hsh
        simp only [eF_len]
        rw [hsh]
        generalize hE4 : (⟨e4.ver, e4.kind.shift (G.length + 3)⟩ : Ent) = e5
        dsimp only [AV.shift]
        have hFl : ∀ (e2 : Ent) (r : List Int), (eF ⟨0, .row 2 [storA ks []]⟩ e2 G r).length = G.length + 3 := fun _ r => rfl
        generalize hN : G.length + 3 = N at hFl
        have hg := fun (e2 : Ent) (r : List Int) (l : Mem) (i : Nat) => getF (l := l) (hFl e2 r) i
        have hg0 := fun (e2 : Ent) (r : List Int) (l : Mem) => getF0 (l := l) (hFl e2 r)
        dsimp only [S.put, optG]
        repeat (first | apply Wp.seq | apply Wp.block | (apply Run.next; (simp only [push_cast, seval, hy, eF_len, eF_0, eF_1, eF_2, eF_s2] <;> (try simp (disch := omega) only [wI, wU, wC]) <;> exact rfl); (focus ((try simp only [push_cast, seval, hy, eF_len, eF_0, eF_1, eF_2, eF_s2]) <;> exact sT))) | ((first | apply Run.nil | apply Wp.skip); dsimp only [sQ, tQ, bQ]) | (apply Wp.run; (dsimp only [List.map] <;> exact rfl); exact rfl) | (apply Wp.exit; dsimp only [sQ, tQ, bQ]; simp only [reduceIte]))
        apply Run.spec (he := Enters.of Try.func27 rfl rfl) (hc := hdo _ N (hFl _ []) e5)
        focus exact rfl
        focus (simp only [push_cast, seval, hy, eF_len, eF_0, eF_1, eF_2, eF_s2] <;> exact rfl)
        focus (simp only [push_cast, seval, hy, eF_len, eF_0, eF_1, eF_2, eF_s2] <;> (try simp (disch := omega) only [wI, wU, wC]) <;> exact rfl)
        rintro x' m' ⟨vi', T', ⟨J, h1, rfl, h2, rfl⟩ | ⟨h1, rfl, h2, rfl⟩⟩
        · generalize wO [] [] y.items.toNat J = W at *
          dsimp only [S.put, optG]
          repeat (first | apply Wp.seq | apply Wp.block | (apply Run.next; (simp only [push_cast, seval, hy, eFa_0, eFa_1, eFa_2, hg, hg0] <;> (try simp (disch := omega) only [wI, wU, wC]) <;> exact rfl); (focus ((try simp only [push_cast, seval, hy, eFa_0, eFa_1, eFa_2, hg, hg0]) <;> exact sT))) | ((first | apply Run.nil | apply Wp.skip); dsimp only [sQ, tQ, bQ]) | (apply Wp.run; (dsimp only [List.map] <;> exact rfl); exact rfl) | (apply Wp.exit; dsimp only [sQ, tQ, bQ]; simp only [reduceIte]) | (apply Run.gtrue; (simp only [push_cast, seval, hy, eFa_0, eFa_1, eFa_2, hg, hg0] <;> (try simp (disch := omega) only [wI, wU, wC]) <;> exact rfl); (simp only [push_cast, seval, hy, eFa_0, eFa_1, eFa_2, hg, hg0] <;> (try simp (disch := omega) only [wI, wU, wC]) <;> exact rfl)) | (apply Run.gfalse (.bool false); (simp only [push_cast, seval, hy, eFa_0, eFa_1, eFa_2, hg, hg0] <;> (try simp (disch := omega) only [wI, wU, wC]) <;> exact rfl); dsimp only [S.put, optG]) | (apply Wp.condT; (simp only [push_cast, seval, hy, eFa_0, eFa_1, eFa_2, hg, hg0] <;> (try simp (disch := omega) only [wI, wU, wC]) <;> exact rfl)) | (apply Wp.condF; (simp only [push_cast, seval, hy, eFa_0, eFa_1, eFa_2, hg, hg0] <;> (try simp (disch := omega) only [wI, wU, wC]) <;> exact rfl)))
          refine Wp.loop (fun (_ : Nat) => { t := [(1, .clo 27 [refS ks []]), (2, .optr 0 0 0 0), (5, .non A), (8, .optr (N + 3) 1 0 0), (16, .lst 2 (ks.map stA)), (17, .int ks.length), (18, .int k), (36, .osl (N + 5) 0 0 0), (37, .int 0), (38, .int 0)], m := eF ⟨0, .row 2 [storA ks []]⟩ ⟨v + 1, .row 2 [stA y]⟩ G [] ++ blk N ks [] ⟨0, .row 2 [storA ks []]⟩ e5 y.life [] vi' J W T' [], n := 56 }) (fun _ => True) (fun _ => 0) 0 ?_ ?_ ?_
          · (refine Le.of ?_ ?_ rfl rfl <;> (try simp only [push_cast, seval, hy, eFa_0, eFa_1, eFa_2, hg, hg0]) <;> (try (with_reducible rfl)))
          · trivial
          · intro q hq1
            repeat (first | apply Wp.seq | apply Wp.block | (apply Run.next; (simp only [push_cast, seval, hy, eFa_0, eFa_1, eFa_2, hg, hg0] <;> (try simp (disch := omega) only [wI, wU, wC]) <;> exact rfl); (focus ((try simp only [push_cast, seval, hy, eFa_0, eFa_1, eFa_2, hg, hg0]) <;> exact sT))) | ((first | apply Run.nil | apply Wp.skip); dsimp only [sQ, tQ, bQ]) | (apply Wp.run; (dsimp only [List.map] <;> exact rfl); exact rfl) | (apply Wp.exit; dsimp only [sQ, tQ, bQ]; simp only [reduceIte]))
            (apply Wp.cond; (simp only [push_cast, seval, hy, eFa_0, eFa_1, eFa_2, hg, hg0] <;> (try simp (disch := omega) only [wI, wU, wC]) <;> exact rfl))
            · intro hcq
              simp at hcq
            · intro hcq
              repeat (first | apply Wp.seq | apply Wp.block | (apply Run.next; (simp only [push_cast, seval, hy, eFa_0, eFa_1, eFa_2, hg, hg0] <;> (try simp (disch := omega) only [wI, wU, wC]) <;> exact rfl); (focus ((try simp only [push_cast, seval, hy, eFa_0, eFa_1, eFa_2, hg, hg0]) <;> exact sT))) | ((first | apply Run.nil | apply Wp.skip); dsimp only [sQ, tQ, bQ]) | (apply Wp.run; (dsimp only [List.map] <;> exact rfl); exact rfl) | (apply Wp.exit; dsimp only [sQ, tQ, bQ]; simp only [reduceIte]))
              refine ⟨(k + 1, v + 1, .row 2 [stA y], G ++ blk N ks [] ⟨0, .row 2 [storA ks []]⟩ e5 y.life [] vi' J W T' []), ?_, ⟨by simp only; omega, fun i hi => ?_⟩, by simp only; omega⟩
              · simp only
                rw [← eF_app]
                (refine Le.of ?_ ?_ rfl rfl <;> (try simp only [push_cast, seval, hy, eFa_0, eFa_1, eFa_2, hg, hg0]) <;> (try (with_reducible rfl)))
              · simp only at hi
                by_cases hik : i = k
                · rw [hik, show srK ks [] k = some J from h1]; rfl
                · exact hk2 i (by omega)
        · dsimp only [S.put, optG]
          (apply Run.next; (simp only [push_cast, seval, hy] <;> (try simp (disch := omega) only [wI, wU, wC]) <;> exact rfl); (focus ((try simp only [push_cast, seval, hy]) <;> exact sT)))
          (apply Run.nil; dsimp only [sQ, tQ, bQ])
          (apply Wp.condT; (simp only [push_cast, seval, hy] <;> (try simp (disch := omega) only [wI, wU, wC]) <;> exact rfl))
          repeat (first | apply Wp.seq | apply Wp.block)
          (apply Wp.run; (dsimp only [List.map] <;> exact rfl); exact rfl)
          (apply Run.nilc; (try dsimp only [putA]))
          (apply Run.nil; dsimp only [sQ, tQ, bQ])
          (apply Wp.ret; (try dsimp only [sQ, tQ, bQ]); apply leaveK; exact rfl; (simp only [push_cast, seval, hy] <;> (try simp (disch := omega) only [wI, wU, wC]) <;> exact rfl); (focus (first | (simp only [push_cast, seval, hy]; done) | trivial | (simp only [push_cast, seval, hy]; trivial) | (simp; done))); (focus (first | (simp only [push_cast, seval, hy]; done) | trivial | (simp only [push_cast, seval, hy]; trivial) | (simp; done))); (focus (first | (simp only [push_cast, seval, hy]; done) | trivial | (simp only [push_cast, seval, hy]; trivial) | (simp; done))); (try simp only [push_cast, seval, hy]))
          exact hQn hc h1
      · intro hc
        simp only [decide_eq_false_iff_not, Int.ofNat_lt] at hc
        obtain rfl : k = ks.length := by omega
        repeat (first | apply Wp.seq | apply Wp.block | (apply Run.next; (simp only [push_cast, seval] <;> (try simp (disch := omega) only [wI, wU, wC]) <;> exact rfl); (focus ((try simp only [push_cast, seval]) <;> exact sT))) | ((first | apply Run.nil | apply Wp.skip); dsimp only [sQ, tQ, bQ]) | (apply Wp.run; (dsimp only [List.map] <;> exact rfl); exact rfl) | (apply Wp.exit; dsimp only [sQ, tQ, bQ]; simp only [reduceIte]))
        (apply Wp.ret; (try dsimp only [sQ, tQ, bQ]); apply leaveK; exact rfl; (simp only [push_cast, seval] <;> (try simp (disch := omega) only [wI, wU, wC]) <;> exact rfl); (focus (first | (simp only [push_cast, seval]; done) | trivial | (simp only [push_cast, seval]; trivial) | (simp; done))); (focus (first | (simp only [push_cast, seval]; done) | trivial | (simp only [push_cast, seval]; trivial) | (simp; done))); (focus (first | (simp only [push_cast, seval]; done) | trivial | (simp only [push_cast, seval]; trivial) | (simp; done))); (try simp only [push_cast, seval]))
        exact hQs hk2
  · have hQs : (∀ k, k < ks.length → (srK ks ls k).isSome = true) → EachQ ks ls (.ints (glue ls (fun k => (srK ks ls k).getD []) ls.length)) [] := fun h => ⟨rfl, .inr ⟨h, .inl ⟨hls, rfl⟩⟩⟩
    have hpos : 0 < ls.length := List.length_pos_iff.2 hls
    generalize EachQ ks ls = Q at hQn hQs
    generalize hf : (fun k => (srK ks ls k).getD []) = f at hQs
    (refine Spec.of_body Try.func26 rfl (by rw [Try.ntmps26]; simp) 0 (by simp) ?_; rw [Try.results26, Try.ntmps26]; simp only [entry, zipArgs, Nat.reduceAdd])
    repeat (first | apply Wp.seq | apply Wp.block | (apply Run.next; (simp only [push_cast, seval] <;> (try simp (disch := omega) only [wI, wU, wC]) <;> exact rfl); (focus ((try simp only [push_cast, seval]) <;> exact sT))) | ((first | apply Run.nil | apply Wp.skip); dsimp only [sQ, tQ, bQ]) | (apply Wp.run; (dsimp only [List.map] <;> exact rfl); exact rfl) | (apply Wp.exit; dsimp only [sQ, tQ, bQ]; simp only [reduceIte]))
    (refine Wp.vacs 1 ?_; (try simp only [List.replicate_succ, List.replicate_zero, List.cons_append, List.nil_append]))
    refine Wp.loop (fun (q : Nat × Nat × Kind × Mem) => { t := [(1, .clo 27 [refS ks ls]), (2, .optr 0 0 0 0), (5, .osl 1 0 0 ls.length), (16, .lst 2 (ks.map stA)), (17, .int ks.length), (18, .int q.1)], m := eF ⟨0, .row 2 [storA ks ls]⟩ ⟨q.2.1, q.2.2.1⟩ q.2.2.2 (plQ ls f q.1 0), n := 56 }) (fun q => q.1 ≤ ks.length ∧ ∀ k, k < q.1 → (srK ks ls k).isSome = true) (fun q => ks.length - q.1) (0, 0, .row 1 [], []) ?_ ?_ ?_
    · rw [plQ_zero hv]
      (refine Le.of ?_ ?_ rfl rfl <;> (try simp only [push_cast, seval]) <;> (try (with_reducible rfl)))
      all_goals rfl
    · simp
    · rintro ⟨k, v, kd, G⟩ ⟨hk1, hk2⟩
      simp only at hk1 hk2
      have hql := plQ_len ls f k 0
      repeat (first | apply Wp.seq | apply Wp.block | (apply Run.calm; exact rfl; (simp only [push_cast, seval] <;> (try simp (disch := omega) only [wI, wU, wC]) <;> exact rfl); (focus ((try simp only [push_cast, seval]) <;> exact sT))) | ((first | apply Run.nil | apply Wp.skip); dsimp only [sQ, tQ, bQ]) | (apply Wp.run; (dsimp only [List.map] <;> exact rfl); exact rfl) | (apply Wp.exit; dsimp only [sQ, tQ, bQ]; simp only [reduceIte]))
      (apply Wp.cond; (simp only [push_cast, seval] <;> (try simp (disch := omega) only [wI, wU, wC]) <;> exact rfl))
      · intro hc
        simp only [decide_eq_true_eq, Int.ofNat_lt] at hc
        have hs := hv.st k hc
        have hnb := newBench_spec hv (k : Int) (ks.getD k st0).items (by omega) (by omega)
        rw [Int.toNat_natCast] at hnb
        have hdo := fun (F : Mem) (N : Nat) (hF : F.length = N) (e4 : Ent) => planDo_spec hv hc hF ⟨0, .row 2 [storA ks ls]⟩ e4
        generalize hy : ks.getD k st0 = y at hs hnb hdo
        repeat (first | apply Wp.seq | apply Wp.block | (apply Run.calm; exact rfl; (simp only [push_cast, seval, hy, eF_len, eF_0, eF_1, eF_2, eF_s2] <;> (try simp (disch := omega) only [wI, wU, wC]) <;> exact rfl); (focus ((try simp only [push_cast, seval, hy, eF_len, eF_0, eF_1, eF_2, eF_s2]) <;> exact sT))) | ((first | apply Run.nil | apply Wp.skip); dsimp only [sQ, tQ, bQ]) | (apply Wp.run; (dsimp only [List.map] <;> exact rfl); exact rfl) | (apply Wp.exit; dsimp only [sQ, tQ, bQ]; simp only [reduceIte]))
        (apply Run.alcAt 2; (simp only [push_cast, seval, hy, eF_len, eF_0, eF_1, eF_2, eF_s2] <;> (try simp (disch := omega) only [wI, wU, wC]) <;> exact rfl); (focus ((try simp only [push_cast, seval, hy, eF_len, eF_0, eF_1, eF_2, eF_s2]) <;> exact sT)); exact rfl; (try simp only [push_cast, seval, hy, eF_len, eF_0, eF_1, eF_2, eF_s2]))
        repeat (first | apply Wp.seq | apply Wp.block | (apply Run.calm; exact rfl; (simp only [push_cast, seval, hy, eF_len, eF_0, eF_1, eF_2, eF_s2] <;> (try simp (disch := omega) only [wI, wU, wC]) <;> exact rfl); (focus ((try simp only [push_cast, seval, hy, eF_len, eF_0, eF_1, eF_2, eF_s2]) <;> exact sT))) | ((first | apply Run.nil | apply Wp.skip); dsimp only [sQ, tQ, bQ]) | (apply Wp.run; (dsimp only [List.map] <;> exact rfl); exact rfl) | (apply Wp.exit; dsimp only [sQ, tQ, bQ]; simp only [reduceIte]))
        apply Run.fresh (he := Enters.of Try.func53 rfl rfl)
        focus (simp only [push_cast, seval, hy, eF_len, eF_0, eF_1, eF_2, eF_s2] <;> exact rfl)
        focus (simp only [push_cast, seval, hy, eF_len, eF_0, eF_1, eF_2, eF_s2] <;> (try simp (disch := omega) only [wI, wU, wC]) <;> exact rfl)
        exact hnb
        focus (focus (simp only [push_cast, seval, hy, eF_len, eF_0, eF_1, eF_2, eF_s2] <;> first | trivial | assumption | (refine ⟨?_, ?_⟩ <;> assumption) | (simp; done)))
        rintro x m' ⟨rfl, e4, rfl⟩
        have hsh := blk_shift (G.length + 3) (ks := ks) (ls := ls) (e4 := e4) (life := y.life) (L := loanP ls k ls.length) (vi := 0) (I := []) (W := List.replicate y.items.toNat 0) (T := T0 y.items.toNat)
        simp only [shE] at hsh
        simp only [eF_len]
        rw [hsh]
        generalize hE4 : (⟨e4.ver, e4.kind.shift (G.length + 3)⟩ : Ent) = e5
        dsimp only [AV.shift]
        have hFl : ∀ (e2 : Ent) (r : List Int), (eF ⟨0, .row 2 [storA ks ls]⟩ e2 G r).length = G.length + 3 := fun _ r => rfl
        generalize hN : G.length + 3 = N at hFl
        have hg := fun (e2 : Ent) (r : List Int) (l : Mem) (i : Nat) => getF (l := l) (hFl e2 r) i
        have hg0 := fun (e2 : Ent) (r : List Int) (l : Mem) => getF0 (l := l) (hFl e2 r)
        dsimp only [S.put, optG]
        repeat (first | apply Wp.seq | apply Wp.block | (apply Run.next; (simp only [push_cast, seval, hy, eF_len, eF_0, eF_1, eF_2, eF_s2] <;> (try simp (disch := omega) only [wI, wU, wC]) <;> exact rfl); (focus ((try simp only [push_cast, seval, hy, eF_len, eF_0, eF_1, eF_2, eF_s2]) <;> exact sT))) | ((first | apply Run.nil | apply Wp.skip); dsimp only [sQ, tQ, bQ]) | (apply Wp.run; (dsimp only [List.map] <;> exact rfl); exact rfl) | (apply Wp.exit; dsimp only [sQ, tQ, bQ]; simp only [reduceIte]))
        apply Run.spec (he := Enters.of Try.func27 rfl rfl) (hc := hdo _ N (hFl _ (plQ ls f k 0)) e5)
        focus exact rfl
        focus (simp only [push_cast, seval, hy, eF_len, eF_0, eF_1, eF_2, eF_s2] <;> exact rfl)
        focus (simp only [push_cast, seval, hy, eF_len, eF_0, eF_1, eF_2, eF_s2] <;> (try simp (disch := omega) only [wI, wU, wC]) <;> exact rfl)
        rintro x' m' ⟨vi', T', ⟨J, h1, rfl, h2, rfl⟩ | ⟨h1, rfl, h2, rfl⟩⟩
        · have hJ := (srch_some h1).1.1
          have hJ : J.length = (loanP ls (k : Int) ls.length).length := by simpa using hJ
          have hfk : f k = J := by rw [← hf]; simp only [h1]; rfl
          have hst := fun q (hq : q < (loanP ls (k : Int) ls.length).length) => plQ_set (ls := ls) f hq
          have hLi := loanP_in ls (k : Int)
          have hLl := loanP_len ls (k : Int) ls.length
          have hnx := plQ_next ls f k
          rw [hfk] at hst
          generalize wO ls (loanP ls (k : Int) ls.length) y.items.toNat J = W at *
          generalize loanP ls (k : Int) ls.length = L at *
          dsimp only [S.put, optG]
          repeat (first | apply Wp.seq | apply Wp.block | (apply Run.next; (simp only [push_cast, seval, hy, eFa_0, eFa_1, eFa_2, hg, hg0, plQ_len] <;> (try simp (disch := omega) only [wI, wU, wC]) <;> exact rfl); (focus ((try simp only [push_cast, seval, hy, eFa_0, eFa_1, eFa_2, hg, hg0, plQ_len]) <;> exact sT))) | ((first | apply Run.nil | apply Wp.skip); dsimp only [sQ, tQ, bQ]) | (apply Wp.run; (dsimp only [List.map] <;> exact rfl); exact rfl) | (apply Wp.exit; dsimp only [sQ, tQ, bQ]; simp only [reduceIte]) | (apply Run.gtrue; (simp only [push_cast, seval, hy, eFa_0, eFa_1, eFa_2, hg, hg0, plQ_len] <;> (try simp (disch := omega) only [wI, wU, wC]) <;> exact rfl); (simp only [push_cast, seval, hy, eFa_0, eFa_1, eFa_2, hg, hg0, plQ_len] <;> (try simp (disch := omega) only [wI, wU, wC]) <;> exact rfl)) | (apply Run.gfalse (.bool false); (simp only [push_cast, seval, hy, eFa_0, eFa_1, eFa_2, hg, hg0, plQ_len] <;> (try simp (disch := omega) only [wI, wU, wC]) <;> exact rfl); dsimp only [S.put, optG]) | (apply Wp.condT; (simp only [push_cast, seval, hy, eFa_0, eFa_1, eFa_2, hg, hg0, plQ_len] <;> (try simp (disch := omega) only [wI, wU, wC]) <;> exact rfl)) | (apply Wp.condF; (simp only [push_cast, seval, hy, eFa_0, eFa_1, eFa_2, hg, hg0, plQ_len] <;> (try simp (disch := omega) only [wI, wU, wC]) <;> exact rfl)))
          refine Wp.loop (fun (q : Nat) => { t := [(1, .clo 27 [refS ks ls]), (2, .optr 0 0 0 0), (5, .osl 1 0 0 ls.length), (8, .optr (N + 3) 1 0 0), (16, .lst 2 (ks.map stA)), (17, .int ks.length), (18, .int k), (36, .osl (N + 5) L.length 0 L.length), (37, .int L.length), (38, .int q)], m := eF ⟨0, .row 2 [storA ks ls]⟩ ⟨v + 1, .row 2 [stA y]⟩ G (plQ ls f k q) ++ blk N ks ls ⟨0, .row 2 [storA ks ls]⟩ e5 y.life L vi' J W T' [], n := 56 }) (fun q => q ≤ L.length) (fun q => L.length - q) 0 ?_ ?_ ?_
          · (refine Le.of ?_ ?_ rfl rfl <;> (try simp only [push_cast, seval, hy, eFa_0, eFa_1, eFa_2, hg, hg0, plQ_len]) <;> (try (with_reducible rfl)))
          · simp
          · intro q hq1
            repeat (first | apply Wp.seq | apply Wp.block | (apply Run.next; (simp only [push_cast, seval, hy, eFa_0, eFa_1, eFa_2, hg, hg0, plQ_len] <;> (try simp (disch := omega) only [wI, wU, wC]) <;> exact rfl); (focus ((try simp only [push_cast, seval, hy, eFa_0, eFa_1, eFa_2, hg, hg0, plQ_len]) <;> exact sT))) | ((first | apply Run.nil | apply Wp.skip); dsimp only [sQ, tQ, bQ]) | (apply Wp.run; (dsimp only [List.map] <;> exact rfl); exact rfl) | (apply Wp.exit; dsimp only [sQ, tQ, bQ]; simp only [reduceIte]))
            (apply Wp.cond; (simp only [push_cast, seval, hy, eFa_0, eFa_1, eFa_2, hg, hg0, plQ_len] <;> (try simp (disch := omega) only [wI, wU, wC]) <;> exact rfl))
            · intro hcq
              simp only [decide_eq_true_eq, Int.ofNat_lt] at hcq
              have hlo : 0 ≤ L.getD q 0 ∧ L.getD q 0 < (ls.length : Int) := hLi _ (by simp [hcq])
              have hst1 := hst q hcq
              generalize hlv : L.getD q 0 = loan at hlo hst1
              generalize hjv : J.getD q 0 = j at hst1
              repeat (first | apply Wp.seq | apply Wp.block | (apply Run.next; (simp only [push_cast, seval, hy, eFa_0, eFa_1, eFa_2, hg, hg0, plQ_len, hlv, hjv, hJ] <;> (try simp (disch := omega) only [wI, wU, wC]) <;> exact rfl); (focus ((try simp only [push_cast, seval, hy, eFa_0, eFa_1, eFa_2, hg, hg0, plQ_len, hlv, hjv, hJ]) <;> exact sT))) | ((first | apply Run.nil | apply Wp.skip); dsimp only [sQ, tQ, bQ]) | (apply Wp.run; (dsimp only [List.map] <;> exact rfl); exact rfl) | (apply Wp.exit; dsimp only [sQ, tQ, bQ]; simp only [reduceIte]))
              refine ⟨q + 1, ?_, by omega, by omega⟩
              rw [hst1]
              (refine Le.of ?_ ?_ rfl rfl <;> (try simp only [push_cast, seval, hy, eFa_0, eFa_1, eFa_2, hg, hg0, plQ_len, hlv, hjv, hJ]) <;> (try (with_reducible rfl)))
              all_goals rfl
            · intro hcq
              simp only [decide_eq_false_iff_not, Int.ofNat_lt] at hcq
              obtain rfl : q = L.length := by omega
              rw [hnx]
              repeat (first | apply Wp.seq | apply Wp.block | (apply Run.next; (simp only [push_cast, seval, hy, eFa_0, eFa_1, eFa_2, hg, hg0, plQ_len] <;> (try simp (disch := omega) only [wI, wU, wC]) <;> exact rfl); (focus ((try simp only [push_cast, seval, hy, eFa_0, eFa_1, eFa_2, hg, hg0, plQ_len]) <;> exact sT))) | ((first | apply Run.nil | apply Wp.skip); dsimp only [sQ, tQ, bQ]) | (apply Wp.run; (dsimp only [List.map] <;> exact rfl); exact rfl) | (apply Wp.exit; dsimp only [sQ, tQ, bQ]; simp only [reduceIte]))
              refine ⟨(k + 1, v + 1, .row 2 [stA y], G ++ blk N ks ls ⟨0, .row 2 [storA ks ls]⟩ e5 y.life L vi' J W T' []), ?_, ⟨by simp only; omega, fun i hi => ?_⟩, by simp only; omega⟩
              · simp only
                rw [← eF_app]
                (refine Le.of ?_ ?_ rfl rfl <;> (try simp only [push_cast, seval, hy, eFa_0, eFa_1, eFa_2, hg, hg0, plQ_len]) <;> (try (with_reducible rfl)))
              · simp only at hi
                by_cases hik : i = k
                · rw [hik, show srK ks ls k = some J from h1]; rfl
                · exact hk2 i (by omega)
        · dsimp only [S.put, optG]
          (apply Run.next; (simp only [push_cast, seval, hy] <;> (try simp (disch := omega) only [wI, wU, wC]) <;> exact rfl); (focus ((try simp only [push_cast, seval, hy]) <;> exact sT)))
          (apply Run.nil; dsimp only [sQ, tQ, bQ])
          (apply Wp.condT; (simp only [push_cast, seval, hy] <;> (try simp (disch := omega) only [wI, wU, wC]) <;> exact rfl))
          repeat (first | apply Wp.seq | apply Wp.block)
          (apply Wp.run; (dsimp only [List.map] <;> exact rfl); exact rfl)
          (apply Run.nilc; (try dsimp only [putA]))
          (apply Run.nil; dsimp only [sQ, tQ, bQ])
          (apply Wp.ret; (try dsimp only [sQ, tQ, bQ]); apply leaveK; exact rfl; (simp only [push_cast, seval, hy] <;> (try simp (disch := omega) only [wI, wU, wC]) <;> exact rfl); (focus (first | (simp only [push_cast, seval, hy]; done) | trivial | (simp only [push_cast, seval, hy]; trivial) | (simp; done))); (focus (first | (simp only [push_cast, seval, hy]; done) | trivial | (simp only [push_cast, seval, hy]; trivial) | (simp; done))); (focus (first | (simp only [push_cast, seval, hy]; done) | trivial | (simp only [push_cast, seval, hy]; trivial) | (simp; done))); (try simp only [push_cast, seval, hy]))
          exact hQn hc h1
      · intro hc
        simp only [decide_eq_false_iff_not, Int.ofNat_lt] at hc
        obtain rfl : k = ks.length := by omega
        have hend := plQ_end hv f
        rw [hend]
        have hgl := glue_len ls f ls.length
        repeat (first | apply Wp.seq | apply Wp.block | (apply Run.next; (simp only [push_cast, seval, eF_len, eF_0, eF_1, eF_2, hgl] <;> (try simp (disch := omega) only [wI, wU, wC]) <;> exact rfl); (focus ((try simp only [push_cast, seval, eF_len, eF_0, eF_1, eF_2, hgl]) <;> exact sT))) | ((first | apply Run.nil | apply Wp.skip); dsimp only [sQ, tQ, bQ]) | (apply Wp.run; (dsimp only [List.map] <;> exact rfl); exact rfl) | (apply Wp.exit; dsimp only [sQ, tQ, bQ]; simp only [reduceIte]))
        (apply Wp.freeze 4; (simp only [push_cast, seval, eF_len, eF_0, eF_1, eF_2, hgl] <;> (try simp (disch := omega) only [wI, wU, wC]) <;> exact rfl); (simp only [push_cast, seval, eF_len, eF_0, eF_1, eF_2, hgl] <;> (try simp (disch := omega) only [wI, wU, wC]) <;> exact rfl); (focus (try simp only [push_cast, seval, eF_len, eF_0, eF_1, eF_2, hgl]); (try (exact sT))); (focus (exact sT)))
        (apply Wp.ret; (try dsimp only [sQ, tQ, bQ]); apply leaveK; exact rfl; (simp only [push_cast, seval, eF_len, eF_0, eF_1, eF_2, hgl] <;> (try simp (disch := omega) only [wI, wU, wC]) <;> exact rfl); (focus (first | (simp only [push_cast, seval, eF_len, eF_0, eF_1, eF_2, hgl]; done) | trivial | (simp only [push_cast, seval, eF_len, eF_0, eF_1, eF_2, hgl]; trivial) | (simp; done))); (focus (first | (simp only [push_cast, seval, eF_len, eF_0, eF_1, eF_2, hgl]; done) | trivial | (simp only [push_cast, seval, eF_len, eF_0, eF_1, eF_2, hgl]; trivial) | (simp; done))); (focus (first | (simp only [push_cast, seval, eF_len, eF_0, eF_1, eF_2, hgl]; done) | trivial | (simp only [push_cast, seval, eF_len, eF_0, eF_1, eF_2, hgl]; trivial) | (simp; done))); (try simp only [push_cast, seval, eF_len, eF_0, eF_1, eF_2, hgl]))
        rw [List.take_of_length_le (by omega)]
        exact hQs hk2
end Go.Proofs.Try
set_option maxHeartbeats 8000000
namespace Go.Proofs.Try
open Go.Vg

/-! Plan -/
def exA (ks : List St) (ls : List Ln) : Bool := (List.range ks.length).all fun k => (srK ks ls k).isSome
def gluS (ks : List St) (ls : List Ln) : List Int := glue ls (fun k => (srK ks ls k).getD []) ls.length
def plnA (ks : List St) (ls : List Ln) : AV := if chkE ks ls = 0 ∧ exA ks ls = true then .ints (gluS ks ls) else .emp
def plnE (ks : List St) (ls : List Ln) : Int := if chkE ks ls = 0 then (if exA ks ls = true then 0 else 101) else chkE ks ls
theorem Plan_pure (ks : List St) (ls : List Ln) (hk : ks.length ≤ 9223372036854775807) (hl : ls.length ≤ 9223372036854775807) : Pure Try.prog 13 [storA ks ls] (.tup [plnA ks ls, .int (plnE ks ls)]) := by
  have hck := check_pure ks ls hk hl
  unfold plnA plnE
  by_cases h1 : chkE ks ls = 0
  · have hv := chkE_ok h1
    have hea := eachP_spec hv
    rw [if_pos h1]
    rw [h1] at hck ⊢
    have hno : ∀ k, k < ks.length → srK ks ls k = none → exA ks ls = false := fun k hk h => range_no hk (by rw [h]; rfl)
    have hall : (∀ k, k < ks.length → (srK ks ls k).isSome = true) → exA ks ls = true := fun h => range_all h
    generalize exA ks ls = ex at hno hall
    (refine Spec.of_body Try.func13 rfl (by rw [Try.ntmps13]; simp) 0 (by simp) ?_; rw [Try.results13, Try.ntmps13]; simp only [entry, zipArgs, Nat.reduceAdd])
    repeat (first | apply Wp.seq | apply Wp.block | (apply Run.next; (simp only [push_cast, seval] <;> (try simp (disch := omega) only [wI, wU, wC]) <;> exact rfl); (focus ((try simp only [push_cast, seval]) <;> exact sT))) | ((first | apply Run.nil | apply Wp.skip); dsimp only [sQ, tQ, bQ]) | (apply Wp.run; (dsimp only [List.map] <;> exact rfl); exact rfl) | (apply Wp.exit; dsimp only [sQ, tQ, bQ]; simp only [reduceIte]))
    (apply Run.pureP; (simp only [push_cast, seval] <;> (try simp (disch := omega) only [wI, wU, wC]) <;> exact rfl); (exact (Enters.of Try.func24 rfl rfl)); (exact hck); (focus (simp only [push_cast, seval] <;> first | trivial | assumption | (refine ⟨?_, ?_⟩ <;> assumption) | (simp; done))); (try dsimp only [putA, optG]))
    repeat (first | apply Wp.seq | apply Wp.block | (apply Run.calm; exact rfl; (simp only [push_cast, seval] <;> (try simp (disch := omega) only [wI, wU, wC]) <;> exact rfl); (focus ((try simp only [push_cast, seval]) <;> exact sT))) | ((first | apply Run.nil | apply Wp.skip); dsimp only [sQ, tQ, bQ]) | (apply Wp.run; (dsimp only [List.map] <;> exact rfl); exact rfl) | (apply Wp.exit; dsimp only [sQ, tQ, bQ]; simp only [reduceIte]))
    (apply Wp.condF; (simp only [push_cast, seval] <;> (try simp (disch := omega) only [wI, wU, wC]) <;> exact rfl))
    (apply Wp.skip; dsimp only [sQ, tQ, bQ])
    (apply Wp.freezeP 1; (simp only [push_cast, seval] <;> (try simp (disch := omega) only [wI, wU, wC]) <;> exact rfl); (simp only [push_cast, seval] <;> (try simp (disch := omega) only [wI, wU, wC]) <;> exact rfl); exact rfl; (focus (first | (simp [AV.cells]; done) | (simp only [push_cast, seval]; done))); simp only [AV.cells, List.set_cons_succ, List.set_cons_zero])
    repeat (first | apply Wp.seq | apply Wp.block | (apply Run.next; (simp only [push_cast, seval] <;> (try simp (disch := omega) only [wI, wU, wC]) <;> exact rfl); (focus ((try simp only [push_cast, seval]) <;> exact sT))) | ((first | apply Run.nil | apply Wp.skip); dsimp only [sQ, tQ, bQ]) | (apply Wp.run; (dsimp only [List.map] <;> exact rfl); exact rfl) | (apply Wp.exit; dsimp only [sQ, tQ, bQ]; simp only [reduceIte]))
    apply Run.fresh (he := Enters.of Try.func26 rfl rfl)
    focus (simp only [push_cast, seval] <;> exact rfl)
    focus (simp only [push_cast, seval] <;> (try simp (disch := omega) only [wI, wU, wC]) <;> exact rfl)
    exact hea
    focus (focus (simp only [push_cast, seval] <;> first | trivial | assumption | (refine ⟨?_, ?_⟩ <;> assumption) | (simp; done)))
    rintro x m' ⟨rfl, ⟨⟨k, hk1, hk2⟩, rfl⟩ | ⟨h2, ⟨h3, rfl⟩ | ⟨h3, A, rfl⟩⟩⟩
    · have := hno k hk1 hk2
      subst this
      dsimp only [AV.shift]
      dsimp only [S.put, optG]
      repeat (first | apply Wp.seq | apply Wp.block | (apply Run.next; (simp only [push_cast, seval] <;> (try simp (disch := omega) only [wI, wU, wC]) <;> exact rfl); (focus ((try simp only [push_cast, seval]) <;> exact sT))) | ((first | apply Run.nil | apply Wp.skip); dsimp only [sQ, tQ, bQ]) | (apply Wp.run; (dsimp only [List.map] <;> exact rfl); exact rfl) | (apply Wp.exit; dsimp only [sQ, tQ, bQ]; simp only [reduceIte]))
      refine Run.isNil (e := 3) (b := true) (by simp only [push_cast, seval]) (by simp only [push_cast, seval]; rfl) ?_
      dsimp only [putA]
      repeat (first | apply Wp.seq | apply Wp.block | (apply Run.next; (simp only [push_cast, seval] <;> (try simp (disch := omega) only [wI, wU, wC]) <;> exact rfl); (focus ((try simp only [push_cast, seval]) <;> exact sT))) | ((first | apply Run.nil | apply Wp.skip); dsimp only [sQ, tQ, bQ]) | (apply Wp.run; (dsimp only [List.map] <;> exact rfl); exact rfl) | (apply Wp.exit; dsimp only [sQ, tQ, bQ]; simp only [reduceIte]) | (apply Run.gtrue; (simp only [push_cast, seval] <;> (try simp (disch := omega) only [wI, wU, wC]) <;> exact rfl); (simp only [push_cast, seval] <;> (try simp (disch := omega) only [wI, wU, wC]) <;> exact rfl)) | (apply Run.gfalse (.bool false); (simp only [push_cast, seval] <;> (try simp (disch := omega) only [wI, wU, wC]) <;> exact rfl); dsimp only [S.put, optG]) | (apply Wp.condT; (simp only [push_cast, seval] <;> (try simp (disch := omega) only [wI, wU, wC]) <;> exact rfl)) | (apply Wp.condF; (simp only [push_cast, seval] <;> (try simp (disch := omega) only [wI, wU, wC]) <;> exact rfl)))
      (apply Wp.ret; (try dsimp only [sQ, tQ, bQ]); apply leave0; exact rfl; (simp only [push_cast, seval] <;> (try simp (disch := omega) only [wI, wU, wC]) <;> exact rfl); all_goals (try simp only [push_cast, seval]); (try rfl))
    · have := hall h2
      subst this
      have hgl : (gluS ks ls).length = ls.length := glue_len _ _ _
      have hpos : 0 < ls.length := List.length_pos_iff.2 h3
      rw [show glue ls (fun k => (srK ks ls k).getD []) ls.length = gluS ks ls from rfl]
      generalize gluS ks ls = gl at hgl
      obtain ⟨a, gl, rfl⟩ : ∃ a l, gl = a :: l := by
        cases gl with
        | nil => simp at hgl; omega
        | cons a l => exact ⟨a, l, rfl⟩
      have hsh : (AV.ints (a :: gl)).shift [(⟨1, .row 2 []⟩ : Ent)].length = .ints (a :: gl) := shift_ok _ _ (by simp only [push_cast])
      simp only [hsh, List.map_nil, List.append_nil]
      dsimp only [S.put, optG]
      repeat (first | apply Wp.seq | apply Wp.block | (apply Run.next; (simp only [push_cast, seval] <;> (try simp (disch := omega) only [wI, wU, wC]) <;> exact rfl); (focus ((try simp only [push_cast, seval]) <;> exact sT))) | ((first | apply Run.nil | apply Wp.skip); dsimp only [sQ, tQ, bQ]) | (apply Wp.run; (dsimp only [List.map] <;> exact rfl); exact rfl) | (apply Wp.exit; dsimp only [sQ, tQ, bQ]; simp only [reduceIte]))
      refine Run.isNil (e := 3) (b := false) (by simp only [push_cast, seval]) (by simp only [push_cast, seval]; rfl) ?_
      dsimp only [putA]
      repeat (first | apply Wp.seq | apply Wp.block | (apply Run.next; (simp only [push_cast, seval] <;> (try simp (disch := omega) only [wI, wU, wC]) <;> exact rfl); (focus ((try simp only [push_cast, seval]) <;> exact sT))) | ((first | apply Run.nil | apply Wp.skip); dsimp only [sQ, tQ, bQ]) | (apply Wp.run; (dsimp only [List.map] <;> exact rfl); exact rfl) | (apply Wp.exit; dsimp only [sQ, tQ, bQ]; simp only [reduceIte]) | (apply Run.gtrue; (simp only [push_cast, seval] <;> (try simp (disch := omega) only [wI, wU, wC]) <;> exact rfl); (simp only [push_cast, seval] <;> (try simp (disch := omega) only [wI, wU, wC]) <;> exact rfl)) | (apply Run.gfalse (.bool false); (simp only [push_cast, seval] <;> (try simp (disch := omega) only [wI, wU, wC]) <;> exact rfl); dsimp only [S.put, optG]) | (apply Wp.condT; (simp only [push_cast, seval] <;> (try simp (disch := omega) only [wI, wU, wC]) <;> exact rfl)) | (apply Wp.condF; (simp only [push_cast, seval] <;> (try simp (disch := omega) only [wI, wU, wC]) <;> exact rfl)))
      (apply Wp.ret; (try dsimp only [sQ, tQ, bQ]); apply leave0; exact rfl; (simp only [push_cast, seval] <;> (try simp (disch := omega) only [wI, wU, wC]) <;> exact rfl); all_goals (try simp only [push_cast, seval]); (try rfl))
    · have := hall h2
      subst this
      subst h3
      dsimp only [AV.shift]
      dsimp only [S.put, optG]
      repeat (first | apply Wp.seq | apply Wp.block | (apply Run.next; (simp only [push_cast, seval] <;> (try simp (disch := omega) only [wI, wU, wC]) <;> exact rfl); (focus ((try simp only [push_cast, seval]) <;> exact sT))) | ((first | apply Run.nil | apply Wp.skip); dsimp only [sQ, tQ, bQ]) | (apply Wp.run; (dsimp only [List.map] <;> exact rfl); exact rfl) | (apply Wp.exit; dsimp only [sQ, tQ, bQ]; simp only [reduceIte]))
      refine Run.isNil (e := 3) (b := false) (by simp only [push_cast, seval]) (by simp only [push_cast, seval]; rfl) ?_
      dsimp only [putA]
      repeat (first | apply Wp.seq | apply Wp.block | (apply Run.next; (simp only [push_cast, seval] <;> (try simp (disch := omega) only [wI, wU, wC]) <;> exact rfl); (focus ((try simp only [push_cast, seval]) <;> exact sT))) | ((first | apply Run.nil | apply Wp.skip); dsimp only [sQ, tQ, bQ]) | (apply Wp.run; (dsimp only [List.map] <;> exact rfl); exact rfl) | (apply Wp.exit; dsimp only [sQ, tQ, bQ]; simp only [reduceIte]) | (apply Run.gtrue; (simp only [push_cast, seval] <;> (try simp (disch := omega) only [wI, wU, wC]) <;> exact rfl); (simp only [push_cast, seval] <;> (try simp (disch := omega) only [wI, wU, wC]) <;> exact rfl)) | (apply Run.gfalse (.bool false); (simp only [push_cast, seval] <;> (try simp (disch := omega) only [wI, wU, wC]) <;> exact rfl); dsimp only [S.put, optG]) | (apply Wp.condT; (simp only [push_cast, seval] <;> (try simp (disch := omega) only [wI, wU, wC]) <;> exact rfl)) | (apply Wp.condF; (simp only [push_cast, seval] <;> (try simp (disch := omega) only [wI, wU, wC]) <;> exact rfl)))
      refine Wp.empt 2 1 (A := some A) (by (simp only [push_cast, seval] <;> (try simp (disch := omega) only [wI, wU, wC]) <;> exact rfl)) ?_
      (apply Wp.ret; (try dsimp only [sQ, tQ, bQ]); apply leave0; exact rfl; (simp only [push_cast, seval] <;> (try simp (disch := omega) only [wI, wU, wC]) <;> exact rfl); all_goals (try simp only [push_cast, seval]); (try rfl))
  · rw [if_neg (fun h => h1 h.1), if_neg h1]
    generalize chkE ks ls = e at hck h1
    have he : decide (e = 0) = false := decide_eq_false h1
    (refine Spec.of_body Try.func13 rfl (by rw [Try.ntmps13]; simp) 0 (by simp) ?_; rw [Try.results13, Try.ntmps13]; simp only [entry, zipArgs, Nat.reduceAdd])
    repeat (first | apply Wp.seq | apply Wp.block | (apply Run.next; (simp only [push_cast, seval, he] <;> (try simp (disch := omega) only [wI, wU, wC]) <;> exact rfl); (focus ((try simp only [push_cast, seval, he]) <;> exact sT))) | ((first | apply Run.nil | apply Wp.skip); dsimp only [sQ, tQ, bQ]) | (apply Wp.run; (dsimp only [List.map] <;> exact rfl); exact rfl) | (apply Wp.exit; dsimp only [sQ, tQ, bQ]; simp only [reduceIte]))
    (apply Run.pureP; (simp only [push_cast, seval, he] <;> (try simp (disch := omega) only [wI, wU, wC]) <;> exact rfl); (exact (Enters.of Try.func24 rfl rfl)); (exact hck); (focus (simp only [push_cast, seval, he] <;> first | trivial | assumption | (refine ⟨?_, ?_⟩ <;> assumption) | (simp; done))); (try dsimp only [putA, optG]))
    repeat (first | apply Wp.seq | apply Wp.block | (apply Run.next; (simp only [push_cast, seval, he] <;> (try simp (disch := omega) only [wI, wU, wC]) <;> exact rfl); (focus ((try simp only [push_cast, seval, he]) <;> exact sT))) | ((first | apply Run.nil | apply Wp.skip); dsimp only [sQ, tQ, bQ]) | (apply Wp.run; (dsimp only [List.map] <;> exact rfl); exact rfl) | (apply Wp.exit; dsimp only [sQ, tQ, bQ]; simp only [reduceIte]) | (apply Run.gtrue; (simp only [push_cast, seval, he] <;> (try simp (disch := omega) only [wI, wU, wC]) <;> exact rfl); (simp only [push_cast, seval, he] <;> (try simp (disch := omega) only [wI, wU, wC]) <;> exact rfl)) | (apply Run.gfalse (.bool false); (simp only [push_cast, seval, he] <;> (try simp (disch := omega) only [wI, wU, wC]) <;> exact rfl); dsimp only [S.put, optG]) | (apply Wp.condT; (simp only [push_cast, seval, he] <;> (try simp (disch := omega) only [wI, wU, wC]) <;> exact rfl)) | (apply Wp.condF; (simp only [push_cast, seval, he] <;> (try simp (disch := omega) only [wI, wU, wC]) <;> exact rfl)))
    (apply Wp.ret; (try dsimp only [sQ, tQ, bQ]); apply leave0; exact rfl; (simp only [push_cast, seval, he] <;> (try simp (disch := omega) only [wI, wU, wC]) <;> exact rfl); all_goals (try simp only [push_cast, seval, he]); (try rfl))
end Go.Proofs.Try
set_option maxHeartbeats 8000000
namespace Go.Proofs.Try
open Go.Vg

/-! what a right plan uses up -/
structure RP (ks : List St) (ls : List Ln) (J : List Int) : Prop where
  len : J.length = ls.length
  rt : RtF (cS ks ls) (okS ks ls) 0 J
theorem RP.item {ks : List St} {ls : List Ln} {J : List Int} (h : RP ks ls J) {i : Nat} (hi : i < ls.length) : 0 ≤ J.getD i 0 ∧ J.getD i 0 < ((ks.getD (ls.getD i ln0).kind.toNat st0).items.toNat : Int) := by
  obtain ⟨j, h1, h2, _⟩ := h.rt i (by omega) (by rw [h.len]; exact hi)
  unfold cS at h1
  omega
theorem srch_rp {ks : List St} {ls : List Ln} {J : List Int} (h : srch (cS ks ls) (okS ks ls) ls.length [] = some J) : RP ks ls J := by
  obtain ⟨⟨h1, _, h3⟩, _⟩ := srch_some h
  exact ⟨by simpa using h1, h3⟩
end Go.Proofs.Try
set_option maxHeartbeats 8000000
namespace Go.Proofs.Try
open Go.Vg

/-! no item is used up more than it may be: the statement -/
theorem gluS_rp {ks : List St} {ls : List Ln} (hv : SV ks ls) (h : exA ks ls = true) : RP ks ls (gluS ks ls) := by
  refine srch_rp (glue_first hv fun k hk => ?_)
  have := List.all_eq_true.1 h k (List.mem_range.2 hk)
  obtain ⟨x, hx⟩ := Option.isSome_iff_exists.1 this
  have hx' : srK ks ls k = some x := hx
  simp only [hx']
  exact hx
end Go.Proofs.Try
set_option maxHeartbeats 8000000
namespace Go.Proofs.Try
open Go.Vg

/-! bookings as loans of the rooms' sets of props -/
def lnO (cs : List Ch) (cake : Int) (b : Bk) : Ln := ⟨b.ch, b.ch, b.st, endR cs cake b, 1⟩
def ksO (cs : List Ch) : List St := cs.map fun _ => ⟨1, 100⟩
theorem ov_same (cs : List Ch) (cake : Int) (a b : Bk) : ovB (lnO cs cake a) (lnO cs cake b) = sameB cs cake a b := by
  unfold ovB sameB lnO
  dsimp only
  rw [Bool.and_assoc]
theorem getD_lnO {cs : List Ch} {cake : Int} {bs : List Bk} {i : Nat} (h : i < bs.length) : (bs.map (lnO cs cake)).getD i ln0 = lnO cs cake (bs.getD i bk0) := by simp [h]
theorem ovI_prI (cs : List Ch) (cake : Int) (bs : List Bk) {i : Nat} (hi : i < bs.length) : ∀ k, k ≤ bs.length → ovI (bs.map (lnO cs cake)) i k = prI (tkF cs cake bs) i k
  | 0, _ => rfl
  | k + 1, h => by
    have e := ovI_prI cs cake bs hi k (by omega)
    unfold ovI prI
    rw [e, getD_lnO hi, getD_lnO (by omega : k < bs.length), ov_same]
    rfl
theorem ovP_prP (cs : List Ch) (cake : Int) (bs : List Bk) : ∀ i, i ≤ bs.length → ovP (bs.map (lnO cs cake)) i = prP (tkF cs cake bs) bs.length i
  | 0, _ => rfl
  | i + 1, h => by
    have e := ovP_prP cs cake bs i (by omega)
    unfold ovP prP
    rw [e, List.length_map, ovI_prI cs cake bs (by omega) _ (Nat.le_refl _)]
theorem ov_tk (cs : List Ch) (cake : Int) (bs : List Bk) : ovP (bs.map (lnO cs cake)) (bs.map (lnO cs cake)).length = tkPK cs cake bs := by
  rw [List.length_map]
  exact ovP_prP cs cake bs _ (Nat.le_refl _)
theorem ck_all {cs : List Ch} {ms : List Ma} {cake : Int} {bs : List Bk} (h : ckE cs ms cake bs = 0) : HV cs ms cake ∧ bs.length ≤ 20 ∧ ∀ i, i < bs.length → BV cs (bs.getD i bk0) ∧ endR cs cake (bs.getD i bk0) ≤ 1440 := by
  unfold ckE at h
  by_cases h1 : hoB cs ms cake = true
  · rw [if_pos h1] at h
    by_cases h2 : bs.length ≤ 20
    · rw [if_pos h2] at h
      by_cases h3 : (List.range bs.length).all (okB cs cake bs) = true
      · refine ⟨hoB_ok h1, h2, fun i hi => ?_⟩
        have := List.all_eq_true.1 h3 i (List.mem_range.2 hi)
        unfold okB at this
        rw [Bool.and_eq_true] at this
        obtain ⟨q1, _, q2⟩ := bkB_bv this.1
        exact ⟨q1, q2⟩
      · rw [if_neg h3] at h; omega
    · rw [if_neg h2] at h; omega
  · rw [if_neg h1] at h; omega
theorem end_ge {cs : List Ch} {ms : List Ma} {cake : Int} (hv : HV cs ms cake) {b : Bk} (hb : BV cs b) : b.st + 1 ≤ endR cs cake b := by
  have h := hv.ch b.ch.toNat (by have := hb.ch; omega)
  have := hv.ck
  unfold endR endG
  split <;> omega
theorem loans_ok {cs : List Ch} {ms : List Ma} {cake : Int} {bs : List Bk} (h : ckE cs ms cake bs = 0) : chkE (ksO cs) (bs.map (lnO cs cake)) = 0 := by
  obtain ⟨hv, hl, hb⟩ := ck_all h
  have hc6 := hv.c6
  unfold chkE
  rw [if_pos]
  unfold checkB
  simp only [Bool.and_eq_true, decide_eq_true_eq, List.all_eq_true]
  refine ⟨⟨⟨by simp [ksO]; omega, by simp; omega⟩, fun x hx => ?_⟩, fun x hx => ?_⟩
  · obtain ⟨y, _, rfl⟩ := List.mem_map.1 hx
    rfl
  · obtain ⟨b, hbm, rfl⟩ := List.mem_map.1 hx
    obtain ⟨i, hi, rfl⟩ := List.getElem_of_mem hbm
    have hbi := hb i hi
    rw [show bs.getD i bk0 = bs[i] by simp [hi]] at hbi
    obtain ⟨q1, q2⟩ := hbi
    have q3 := end_ge hv q1
    obtain ⟨q4, q5⟩ := q1
    unfold lnB lnO wi ksO
    dsimp only
    rw [List.length_map, wI (by omega) (by omega)]
    simp only [Bool.and_eq_true, decide_eq_true_eq]
    omega
theorem ovI_empty (ls : List Ln) (i : Nat) : ∀ k, ovI ls i k = [] ↔ ∀ j, j < k → i < j → ovB (ls.getD i ln0) (ls.getD j ln0) = false
  | 0 => by simp [ovI]
  | k + 1 => by
    have ih := ovI_empty ls i k
    unfold ovI
    by_cases hc : (decide (i < k) && ovB (ls.getD i ln0) (ls.getD k ln0)) = true
    · rw [if_pos hc]
      rw [Bool.and_eq_true, decide_eq_true_eq] at hc
      refine ⟨fun h => by simp at h, fun h => ?_⟩
      have := h k (by omega) hc.1
      rw [hc.2] at this; cases this
    · rw [if_neg hc, ih]
      refine ⟨fun h j hj hij => ?_, fun h j hj hij => h j (by omega) hij⟩
      by_cases hjk : j = k
      · subst hjk
        rw [Bool.and_eq_true, decide_eq_true_eq, not_and, Bool.not_eq_true] at hc
        exact hc hij
      · exact h j (by omega) hij
theorem ovP_empty (ls : List Ln) : ∀ n, ovP ls n = [] ↔ ∀ i, i < n → ∀ j, j < ls.length → i < j → ovB (ls.getD i ln0) (ls.getD j ln0) = false
  | 0 => by simp [ovP]
  | n + 1 => by
    have ih := ovP_empty ls n
    unfold ovP
    rw [List.append_eq_nil_iff, ih, ovI_empty]
    refine ⟨fun ⟨h1, h2⟩ i hi => ?_, fun h => ⟨fun i hi => h i (by omega), h n (by omega)⟩⟩
    by_cases hin : i = n
    · subst hin; exact h2
    · exact h1 i (by omega)
theorem sumU_one {ls : List Ln} (hu : ∀ i, (ls.getD i ln0).uses ≤ 1) (p : List Int) (i : Nat) : ∀ k : Nat, sumU ls p i k ≤ k
  | 0 => by simp [sumU]
  | k + 1 => by
    have := sumU_one hu p i k
    have := hu k
    unfold sumU
    split <;> omega
theorem plan_iff {ks : List St} {ls : List Ln} (hv : SV ks ls) (hk : ∀ k, k < ks.length → ks.getD k st0 = ⟨1, 100⟩) (hu : ∀ i, (ls.getD i ln0).uses ≤ 1) : exA ks ls = true ↔ ovP ls ls.length = [] := by
  have hl20 := hv.l20
  have hks : ∀ i, i < ls.length → ks.getD (ls.getD i ln0).kind.toNat st0 = ⟨1, 100⟩ := fun i hi => hk _ (by have := (hv.ln i hi).1; omega)
  rw [ovP_empty]
  constructor
  · intro h
    have hr := gluS_rp hv h
    generalize gluS ks ls = J at hr
    have h0 : ∀ i, i < ls.length → J.getD i 0 = 0 := by
      intro i hi
      have := hr.item hi
      rw [hks i hi] at this
      simp only at this
      omega
    intro i hi j hj hij
    obtain ⟨q, _, _, hq⟩ := hr.rt j (by omega) (by rw [hr.len]; exact hj)
    unfold okS at hq
    have hln : (J.take (j + 1)).length - 1 = j := by rw [List.length_take, hr.len]; omega
    rw [hln, wrongB_take, Bool.not_eq_true'] at hq
    unfold wrongB at hq
    rw [Bool.or_eq_false_iff, Bool.or_eq_false_iff] at hq
    have hcl := (clashB_false ls J j j).1 hq.2.1 i hij
    by_cases hkk : (ls.getD i ln0).kind = (ls.getD j ln0).kind
    · refine hcl ?_
      unfold mateB
      rw [h0 i hi, h0 j hj, hkk]
      simp
    · unfold ovB
      rw [decide_eq_false hkk]
      rfl
  · intro h
    have hJ : (List.replicate ls.length (0 : Int)).length = ls.length := by simp
    have hz : ∀ i, (List.replicate ls.length (0 : Int)).getD i 0 = 0 := by
      intro i
      by_cases hi : i < ls.length
      · simp [hi]
      · rw [List.getD_eq_getElem?_getD, List.getElem?_eq_none (by rw [hJ]; omega)]; rfl
    have hrt : RtF (cS ks ls) (okS ks ls) 0 (List.replicate ls.length (0 : Int)) := by
      intro i _ hi
      rw [hJ] at hi
      refine ⟨0, ?_, hz i, ?_⟩
      · unfold cS
        rw [hks i hi]
        decide
      · unfold okS
        have hln : ((List.replicate ls.length (0 : Int)).take (i + 1)).length - 1 = i := by rw [List.length_take, hJ]; omega
        rw [hln, wrongB_take, Bool.not_eq_true']
        unfold wrongB
        rw [hz i, hks i hi]
        have hs := sumU_one hu (List.replicate ls.length (0 : Int)) i i
        have hui := hu i
        have hcl : clashB ls (List.replicate ls.length (0 : Int)) i i = false := by
          rw [clashB_false]
          intro k hk _
          exact h k (by omega) i hi hk
        rw [hcl, Bool.or_eq_false_iff, Bool.or_eq_false_iff]
        refine ⟨rfl, rfl, decide_eq_false ?_⟩
        dsimp only
        omega
    have hks2 := (right_kinds hv hJ).1 hrt
    unfold exA
    rw [List.all_eq_true]
    intro k hk
    have hk := List.mem_range.1 hk
    unfold srK
    rw [srch_isSome]
    exact ⟨_, by rw [pick_len]; simp, rfl, hks2 k hk⟩
theorem lent_iff {cs : List Ch} {ms : List Ma} {cake : Int} {bs : List Bk} (h : ckE cs ms cake bs = 0) : exA (ksO cs) (bs.map (lnO cs cake)) = decide (tkPK cs cake bs = []) := by
  have hv := chkE_ok (loans_ok h)
  rw [← ov_tk]
  refine Bool.eq_iff_iff.2 ?_
  rw [decide_eq_true_eq]
  refine plan_iff hv (fun k hk => ?_) (fun i => ?_)
  · unfold ksO at hk ⊢
    simp at hk
    simp [hk]
  · by_cases hi : i < bs.length
    · rw [getD_lnO hi]; exact Int.le_refl _
    · rw [List.getD_eq_getElem?_getD, List.getElem?_eq_none (by rw [List.length_map]; omega)]; decide
end Go.Proofs.Try
