/- A part of the proof of ResetOrders: contracts of functions, with plain laws that they need. -/
import Derived.Carry
import Derived.OpenShut
import Derived.Deep.Slices
import Derived.Deep.Strs
import Derived.Deep.DeepHandedRow
import Derived.Lib.LaidTab
import Derived.Lib.ItoaNum
import Derived.Test.YtjhljokghikamaaGreatDoorVgR70J
set_option linter.all false
set_option maxHeartbeats 16000000
namespace Go.Proofs.Tryz
open Go.Vg
theorem ordR_len {D : Nat → List Int} : ∀ {n a : Nat} {L o : List Int}, ordR D n a L = some o → o.length = n
 | 0, a, L, o, h => by simp only [ordR, Option.some.injEq] at h; subst h; rfl
 | n + 1, a, L, o, h => by
  rw [ordR] at h
  split at h
  ·obtain ⟨p, hp, rfl⟩ := Option.map_eq_some_iff.1 h
   rw [List.length_cons, ordR_len hp]
  ·cases h
theorem law_ResetOrders (r : Rm) (s : St) : Pure Tryz.prog 12 [rmA r, stA s] (.bool true) := by
 refine Spec.pre (C := Ln s) (fun X w ρ vs hr => by obtain ⟨_, _, _, _, _, _, _, h2, _⟩ := hr; exact st_len h2) fun hl => ?_
 have w1 := works_pure
 have f1 := Far_pure r
 have a1 := Away_pure hl
 cases hfa : farB r with
 | true =>
  rw [hfa] at f1
  unfold rmA rmC at *
  unfold stA at *
  generalize awB s = b at *
  (refine Spec.bd 0 Tryz.func12 Tryz.results12 Tryz.ntmps12 ?_; simp only [entry, zipArgs, Nat.reduceAdd])
  (refine x_go @Bool.true_or ?_)
  (apply Run.pureFP; (exact x_ev @Bool.true_or); (exact (Enters.of Tryz.func20 rfl rfl)); (exact f1); (exact x_al @Bool.true_or); (try dsimp only [putA, optG]))
  (refine x_go @Bool.true_or ?_)
  (try (apply Run.pureP; (exact x_ev @Bool.true_or); (exact (Enters.of Tryz.func14 rfl rfl)); (exact a1); (exact x_al @Bool.true_or); (try dsimp only [putA, optG])))
  (refine x_gg @Bool.true_or ?_)
  (apply Run.pureP; (exact x_ev @Bool.true_or); (exact (Enters.of Tryz.func15 rfl rfl)); (exact w1); (exact x_al @Bool.true_or); (try dsimp only [putA, optG]))
  (refine x_gg @Bool.true_or ?_)
  (first | exact x_ret @Bool.true_or | refine x_retZ @Bool.true_or ?_)
 | false =>
  rw [hfa] at f1
  cases haw : awB s with
  | true =>
   rw [haw] at a1
   unfold rmA rmC at *
   unfold stA at *
   (refine Spec.bd 0 Tryz.func12 Tryz.results12 Tryz.ntmps12 ?_; simp only [entry, zipArgs, Nat.reduceAdd])
   (refine x_go @Bool.true_or ?_)
   (apply Run.pureFP; (exact x_ev @Bool.true_or); (exact (Enters.of Tryz.func20 rfl rfl)); (exact f1); (exact x_al @Bool.true_or); (try dsimp only [putA, optG]))
   (refine x_go @Bool.true_or ?_)
   (apply Run.pureFP; (exact x_ev @Bool.true_or); (exact (Enters.of Tryz.func14 rfl rfl)); (exact a1); (exact x_al @Bool.true_or); (try dsimp only [putA, optG]))
   (refine x_gg @Bool.true_or ?_)
   (apply Run.pureP; (exact x_ev @Bool.true_or); (exact (Enters.of Tryz.func15 rfl rfl)); (exact w1); (exact x_al @Bool.true_or); (try dsimp only [putA, optG]))
   (refine x_gg @Bool.true_or ?_)
   (first | exact x_ret @Bool.true_or | refine x_retZ @Bool.true_or ?_)
  | false =>
   rw [haw] at a1
   have hz := farB_Sz hfa
   have hs := awB_Zs haw
   have g1 := CopyState_pure s hs
   have g2 := Copy_pure hz
   have g7 := sameInts_pure [] [] (by simp)
   simp only [decide_true] at g7
   by_cases hb : begE r s = 0
   ·have g5 := order_ok hz hs hb
    have g6 := rorder_ok hz hs hb
    unfold ordA at g5 g6
    rw [if_pos hb] at g5 g6
    have hlen := fun o (h : ordR (dF r.wy r.ps.length) (lfL r s).length 0 (lfL r s) = some o) => ordR_len h
    have hll := lfL_len r s
    have hs1 := hs.ts
    have hs2 := hs.pp
    generalize ordR (dF r.wy r.ps.length) (lfL r s).length 0 (lfL r s) = A at *
    cases A with
    | some o =>
     have ho := hlen o rfl
     have g8 := sameInts_pure o o (by omega)
     simp only [decide_true] at g8
     unfold ansO at g5 g6
     unfold rmA rmC at *
     unfold stA at *
     (refine Spec.bd 0 Tryz.func12 Tryz.results12 Tryz.ntmps12 ?_; simp only [entry, zipArgs, Nat.reduceAdd])
     (refine x_go (zc @decide_true @beqSf) ?_)
     (apply Run.pureFP; (exact x_ev (zc @decide_true @beqSf)); (exact (Enters.of Tryz.func20 rfl rfl)); (exact f1); (exact x_al (zc @decide_true @beqSf)); (try dsimp only [putA, optG]))
     (refine x_go (zc @decide_true @beqSf) ?_)
     (apply Run.pureFP; (exact x_ev (zc @decide_true @beqSf)); (exact (Enters.of Tryz.func14 rfl rfl)); (exact a1); (exact x_al (zc @decide_true @beqSf)); (try dsimp only [putA, optG]))
     (refine x_gg (zc @decide_true @beqSf) ?_)
     (refine Wp.rnD 10 ?_; apply exAb; (((refine x_abn (zc @decide_true @beqSf) ?_); (apply Abn.pureFP; (exact x_ev (zc @decide_true @beqSf)); (exact (Enters.of Tryz.func17 rfl rfl)); (exact g2); (exact x_al (zc @decide_true @beqSf)); (try dsimp only [putA, optG])); (refine x_abn (zc @decide_true @beqSf) ?_); (apply Abn.pureFP; (exact x_ev (zc @decide_true @beqSf)); (exact (Enters.of Tryz.func18 rfl rfl)); (exact g1); (exact x_al (zc @decide_true @beqSf)); (try dsimp only [putA, optG])); (refine x_abn (zc @decide_true @beqSf) ?_); (apply Abn.pureFP; (exact x_ev (zc @decide_true @beqSf)); (exact (Enters.of Tryz.func42 rfl rfl)); (exact g5); (exact x_al (zc @decide_true @beqSf)); (try dsimp only [putA, optG])); (refine x_abn (zc @decide_true @beqSf) ?_)); exact Abn.nil))
     (refine x_gg (zc @decide_true @beqSf) ?_)
     (apply Run.pureFP; (exact x_ev (zc @decide_true @beqSf)); (exact (Enters.of Tryz.func43 rfl rfl)); (exact g6); (exact x_al (zc @decide_true @beqSf)); (try dsimp only [putA, optG]))
     (refine x_gg (zc @decide_true @beqSf) ?_)
     (apply Run.pureP; (exact x_ev (zc @decide_true @beqSf)); (exact (Enters.of Tryz.func25 rfl rfl)); (exact g8); (exact x_al (zc @decide_true @beqSf)); (try dsimp only [putA, optG]))
     (refine x_gg (zc @decide_true @beqSf) ?_)
     (apply Run.pureP; (exact x_ev (zc @decide_true @beqSf)); (exact (Enters.of Tryz.func15 rfl rfl)); (exact w1); (exact x_al (zc @decide_true @beqSf)); (try dsimp only [putA, optG]))
     (refine x_gg (zc @decide_true @beqSf) ?_)
     (first | exact x_ret (zc @decide_true @beqSf) | refine x_retZ (zc @decide_true @beqSf) ?_)
    | none =>
     unfold ansO at g5 g6
     unfold rmA rmC at *
     unfold stA at *
     (refine Spec.bd 0 Tryz.func12 Tryz.results12 Tryz.ntmps12 ?_; simp only [entry, zipArgs, Nat.reduceAdd])
     (refine x_go (zc @decide_true @beqSf) ?_)
     (apply Run.pureFP; (exact x_ev (zc @decide_true @beqSf)); (exact (Enters.of Tryz.func20 rfl rfl)); (exact f1); (exact x_al (zc @decide_true @beqSf)); (try dsimp only [putA, optG]))
     (refine x_go (zc @decide_true @beqSf) ?_)
     (apply Run.pureFP; (exact x_ev (zc @decide_true @beqSf)); (exact (Enters.of Tryz.func14 rfl rfl)); (exact a1); (exact x_al (zc @decide_true @beqSf)); (try dsimp only [putA, optG]))
     (refine x_gg (zc @decide_true @beqSf) ?_)
     (refine Wp.rnD 10 ?_; apply exAb; (((refine x_abn (zc @decide_true @beqSf) ?_); (apply Abn.pureFP; (exact x_ev (zc @decide_true @beqSf)); (exact (Enters.of Tryz.func17 rfl rfl)); (exact g2); (exact x_al (zc @decide_true @beqSf)); (try dsimp only [putA, optG])); (refine x_abn (zc @decide_true @beqSf) ?_); (apply Abn.pureFP; (exact x_ev (zc @decide_true @beqSf)); (exact (Enters.of Tryz.func18 rfl rfl)); (exact g1); (exact x_al (zc @decide_true @beqSf)); (try dsimp only [putA, optG])); (refine x_abn (zc @decide_true @beqSf) ?_); (apply Abn.pureFP; (exact x_ev (zc @decide_true @beqSf)); (exact (Enters.of Tryz.func42 rfl rfl)); (exact g5); (exact x_al (zc @decide_true @beqSf)); (try dsimp only [putA, optG])); (refine x_abn (zc @decide_true @beqSf) ?_)); exact Abn.nil))
     (refine x_gg (zc @decide_true @beqSf) ?_)
     (apply Run.pureFP; (exact x_ev (zc @decide_true @beqSf)); (exact (Enters.of Tryz.func43 rfl rfl)); (exact g6); (exact x_al (zc @decide_true @beqSf)); (try dsimp only [putA, optG]))
     (refine x_gg (zc @decide_true @beqSf) ?_)
     (apply Run.pureW; (exact x_ev (zc @decide_true @beqSf)); (exact (Enters.of Tryz.func25 rfl rfl)); (exact g7); (exact VwL.cons .emp (VwL.cons .emp .nil)); (simp only [push_cast, seval, decide_true, beq_self_eq_true] <;> first | trivial | assumption | (refine ⟨?_, ?_⟩ <;> assumption) | (simp; done)); (try dsimp only [putA, optG]))
     (refine x_gg (zc @decide_true @beqSf) ?_)
     (apply Run.pureP; (exact x_ev (zc @decide_true @beqSf)); (exact (Enters.of Tryz.func15 rfl rfl)); (exact w1); (exact x_al (zc @decide_true @beqSf)); (try dsimp only [putA, optG]))
     (refine x_gg (zc @decide_true @beqSf) ?_)
     (first | exact x_ret (zc @decide_true @beqSf) | refine x_retZ (zc @decide_true @beqSf) ?_)
   ·have g5 := order_err hz hs hb
    have g6 := rorder_err hz hs hb
    generalize begE r s = e at *
    unfold rmA rmC at *
    unfold stA at *
    (refine Spec.bd 0 Tryz.func12 Tryz.results12 Tryz.ntmps12 ?_; simp only [entry, zipArgs, Nat.reduceAdd])
    (refine x_go (zc @decide_true @beqSf) ?_)
    (apply Run.pureFP; (exact x_ev (zc @decide_true @beqSf)); (exact (Enters.of Tryz.func20 rfl rfl)); (exact f1); (exact x_al (zc @decide_true @beqSf)); (try dsimp only [putA, optG]))
    (refine x_go (zc @decide_true @beqSf) ?_)
    (apply Run.pureFP; (exact x_ev (zc @decide_true @beqSf)); (exact (Enters.of Tryz.func14 rfl rfl)); (exact a1); (exact x_al (zc @decide_true @beqSf)); (try dsimp only [putA, optG]))
    (refine x_gg (zc @decide_true @beqSf) ?_)
    (refine Wp.rnD 10 ?_; apply exAb; (((refine x_abn (zc @decide_true @beqSf) ?_); (apply Abn.pureFP; (exact x_ev (zc @decide_true @beqSf)); (exact (Enters.of Tryz.func17 rfl rfl)); (exact g2); (exact x_al (zc @decide_true @beqSf)); (try dsimp only [putA, optG])); (refine x_abn (zc @decide_true @beqSf) ?_); (apply Abn.pureFP; (exact x_ev (zc @decide_true @beqSf)); (exact (Enters.of Tryz.func18 rfl rfl)); (exact g1); (exact x_al (zc @decide_true @beqSf)); (try dsimp only [putA, optG])); (refine x_abn (zc @decide_true @beqSf) ?_); (apply Abn.pureFP; (exact x_ev (zc @decide_true @beqSf)); (exact (Enters.of Tryz.func42 rfl rfl)); (exact g5); (exact x_al (zc @decide_true @beqSf)); (try dsimp only [putA, optG])); (refine x_abn (zc @decide_true @beqSf) ?_)); exact Abn.nil))
    (refine x_gg (zc @decide_true @beqSf) ?_)
    (apply Run.pureFP; (exact x_ev (zc @decide_true @beqSf)); (exact (Enters.of Tryz.func43 rfl rfl)); (exact g6); (exact x_al (zc @decide_true @beqSf)); (try dsimp only [putA, optG]))
    (refine x_gg (zc @decide_true @beqSf) ?_)
    (apply Run.pureW; (exact x_ev (zc @decide_true @beqSf)); (exact (Enters.of Tryz.func25 rfl rfl)); (exact g7); (exact VwL.cons .emp (VwL.cons .emp .nil)); (simp only [push_cast, seval, decide_true, beq_self_eq_true] <;> first | trivial | assumption | (refine ⟨?_, ?_⟩ <;> assumption) | (simp; done)); (try dsimp only [putA, optG]))
    (refine x_gg (zc @decide_true @beqSf) ?_)
    (apply Run.pureP; (exact x_ev (zc @decide_true @beqSf)); (exact (Enters.of Tryz.func15 rfl rfl)); (exact w1); (exact x_al (zc @decide_true @beqSf)); (try dsimp only [putA, optG]))
    (refine x_gg (zc @decide_true @beqSf) ?_)
    (first | exact x_ret (zc @decide_true @beqSf) | refine x_retZ (zc @decide_true @beqSf) ?_)
end Go.Proofs.Tryz
namespace Go.Vg
open Go.RowKit Go.ChangeShapes
abbrev XN : Nat → Prop := fun _ => False
def AV.simple : AV → Bool
 | .val _ | .lst _ _ => true
 | _ => false
theorem simple_at {w : World} {ρ : Rho} {x : AV} (h : x.simple = true) (sz b o : Nat) : Re XN w ρ x sz b o = OneAt w (fun v => R XN w ρ x v) sz b o := by
 cases x <;> simp_all [AV.simple] <;> rfl
def Opens (P : Program) (t : TypeId) (Q : List AV → Prop) : Prop :=
 ∀ (H : Type) (enc : TypeId × Value → H) (w : World) (base : Nat) (spare : Nat → Bool) (held : Bool) (fuel : Nat) (cs : List Value) (x : DataW H × List MemPlace),
  DataW.trod enc P w base spare held fuel t cs = some x →
  ∃ xs, Q xs ∧ Rvals XN w [] xs cs ∧ xs.length = P.cellsOf t ∧ (∀ y ∈ xs, y.simple = true) ∧ ∀ v ∈ cs, v.oneCell' = true
theorem Opens.mono {P : Program} {t : TypeId} {Q Q' : List AV → Prop} (h : Opens P t Q) (hq : ∀ xs, Q xs → Q' xs) : Opens P t Q' :=
 fun H enc w base spare held fuel cs x hx => let ⟨xs, h1, h2⟩ := h H enc w base spare held fuel cs x hx; ⟨xs, hq xs h1, h2⟩
def i64 (n : Int) : Prop := -9223372036854775808 ≤ n ∧ n ≤ 9223372036854775807
theorem Opens.int {P : Program} {t : TypeId} (ht : P.underlying t = some (.int .i64)) (hc : P.cellsOf t = 1) : Opens P t fun xs => ∃ n, i64 n ∧ xs = [.int n] := by
 intro H enc w base spare held fuel cs x h
 obtain ⟨n, rfl, rfl, hw⟩ := DataW.trod_int ht h
 exact ⟨[.int n], ⟨n, bounds_i64 hw, rfl⟩, ⟨_, [], rfl, rfl, rfl⟩, by rw [hc]; rfl, by simp [AV.simple], by simp [Value.oneCell']⟩
theorem Opens.bool {P : Program} {t : TypeId} (ht : P.underlying t = some .bool) (hc : P.cellsOf t = 1) : Opens P t fun xs => ∃ b, xs = [.bool b] := by
 intro H enc w base spare held fuel cs x h
 obtain ⟨b, rfl, rfl⟩ := DataW.trod_bool ht h
 exact ⟨[.bool b], ⟨b, rfl⟩, ⟨_, [], rfl, rfl, rfl⟩, by rw [hc]; rfl, by simp [AV.simple], by simp [Value.oneCell']⟩
theorem Opens.str {P : Program} {t : TypeId} (ht : P.underlying t = some .string) (hc : P.cellsOf t = 1) : Opens P t fun xs => ∃ s : ByteArray, s.size ≤ maxLen ∧ xs = [.str s] := by
 intro H enc w base spare held fuel cs x h
 obtain ⟨s, rfl, rfl, hs⟩ := DataW.trod_string ht h
 exact ⟨[.str s], ⟨s, hs, rfl⟩, ⟨_, [], rfl, rfl, rfl⟩, by rw [hc]; rfl, by simp [AV.simple], by simp [Value.oneCell']⟩
def contig (P : Program) : Nat → List Field → Nat → Bool
 | o, [], n => o == n
 | o, f :: fs, n => f.offset == o && contig P (o + P.cellsOf f.type) fs n
inductive OpensFs (P : Program) : List Field → (List AV → Prop) → Prop
 | nil : OpensFs P [] fun xs => xs = []
 | cons {f : Field} {fs : List Field} {Q Q' : List AV → Prop} : Opens P f.type Q → OpensFs P fs Q' → OpensFs P (f :: fs) fun xs => ∃ a b, xs = a ++ b ∧ Q a ∧ Q' b
theorem opensFs_run {P : Program} {H : Type} {enc : TypeId × Value → H} {w : World} {base : Nat} {spare : Nat → Bool} {held : Bool} {fuel : Nat} {cs : List Value} :
  ∀ {fs : List Field} {Q : List AV → Prop}, OpensFs P fs Q → ∀ o, contig P o fs cs.length = true → (∀ f ∈ fs, ∃ x, DataW.trod enc P w base spare held fuel f.type ((cs.drop f.offset).take (P.cellsOf f.type)) = some x) →
  ∃ xs, Q xs ∧ Rvals XN w [] xs (cs.drop o) ∧ o + xs.length = cs.length ∧ (∀ y ∈ xs, y.simple = true) ∧ ∀ v ∈ cs.drop o, v.oneCell' = true
 | [], _, .nil, o, hc, _ => by
  simp only [contig, beq_iff_eq] at hc
  subst hc
  exact ⟨[], rfl, by simp [Rvals], by simp, by simp, by simp⟩
 | f :: fs, _, .cons h1 h2, o, hc, ht => by
  simp only [contig, Bool.and_eq_true, beq_iff_eq] at hc
  obtain ⟨x, hx⟩ := ht f (by simp)
  rw [hc.1] at hx
  obtain ⟨a, a1, a2, a3, a4, a5⟩ := h1 H enc w base spare held fuel _ x hx
  obtain ⟨b, b1, b2, b3, b4, b5⟩ := opensFs_run h2 (o + P.cellsOf f.type) hc.2 (fun g hg => ht g (by simp [hg]))
  have e : cs.drop o = (cs.drop o).take (P.cellsOf f.type) ++ cs.drop (o + P.cellsOf f.type) := by
   rw [← List.drop_drop, List.take_append_drop]
  refine ⟨a ++ b, ⟨a, b, rfl, a1, b1⟩, ?_, by simp; omega, ?_, ?_⟩
  ·rw [e]; exact Rvals.append a2 b2
  ·intro y hy
   rcases List.mem_append.1 hy with h | h
   ·exact a4 y h
   ·exact b4 y h
  ·intro v hv
   rw [e] at hv
   rcases List.mem_append.1 hv with h | h
   ·exact a5 v h
   ·exact b5 v h
theorem Opens.struct {P : Program} {t : TypeId} {fs : Array Field} {Q : List AV → Prop} (ht : P.underlying t = some (.struct fs)) (hc : contig P 0 fs.toList (P.cellsOf t) = true) (hF : OpensFs P fs.toList Q) : Opens P t Q := by
 intro H enc w base spare held fuel cs x h
 obtain ⟨xs, n, rfl, rfl, hl, hlen, hf⟩ := DataW.trod_struct ht h
 obtain ⟨ys, h1, h2, h3, h4, h5⟩ := opensFs_run (enc := enc) (w := w) (base := base) (spare := spare) (held := held) (fuel := n) (cs := cs) hF 0 (by rw [hl]; exact hc) (fun f hf' => by
  obtain ⟨i, hi, e⟩ := List.getElem_of_mem hf'
  have hi' : i < fs.size := by simpa using hi
  have := hf i f (by rw [Array.getElem?_eq_getElem hi']; simpa using e)
  rw [this, List.getElem?_eq_getElem (by omega)]
  exact ⟨_, rfl⟩)
 exact ⟨ys, h1, by simpa using h2, by omega, h4, by simpa using h5⟩
def elemAV (P : Program) (e : TypeId) (xs : List AV) : AV :=
 match agg? P e with
 | some true => .agg xs
 | _ => xs.headD .any
theorem Rcells_of0 {w : World} {b : Nat} : ∀ {xs : List AV} {cs : List Value} {o : Nat}, Rvals XN w [] xs cs → (∀ i v, cs[i]? = some v → w.cell? ⟨b, o + i, none⟩ = some v ∧ v.oneCell' = true) → Rcells XN w [] xs b o
 | [], _, _, _, _ => trivial
 | x :: xs, _, o, ⟨v, vs, e, h1, h2⟩, h => by
  subst e
  refine ⟨⟨v, (h 0 v rfl).1, (h 0 v rfl).2, h1⟩, Rcells_of0 h2 fun i u hu => ?_⟩
  have := h (i + 1) u (by simpa using hu)
  rw [show o + 1 + i = o + (i + 1) by omega]
  exact this
theorem mapM_get {α β : Type} {f : α → Option β} : ∀ {l : List α} {r : List β}, l.mapM f = some r → ∀ (i : Nat) (y : β), r[i]? = some y → ∃ x, l[i]? = some x ∧ f x = some y
 | [], r, h, i, y, hy => by simp at h; subst h; simp at hy
 | a :: l, r, h, i, y, hy => by
  rw [List.mapM_cons] at h
  cases ha : f a with
  | none => rw [ha] at h; simp at h
  | some z =>
   rw [ha] at h
   cases hl : l.mapM f with
   | none => rw [hl] at h; simp at h
   | some q =>
    rw [hl] at h
    simp at h
    subst h
    cases i with
    | zero => simp at hy; subst hy; exact ⟨a, rfl, ha⟩
    | succ i => simpa using mapM_get hl i y (by simpa using hy)
theorem cells_get {w : World} {base n : Nat} {a : Addr} {cs : List Value} (h : w.cells? base a n = some cs) : ∀ i v, cs[i]? = some v → w.cell? (a.add i) = some v := by
 intro i v hi
 unfold World.cells? at h
 split at h
 ·obtain ⟨x, h1, h2⟩ := mapM_get h i v hi
  have : x = i := by
   rw [List.getElem?_range] at h1
   ·simpa using h1.symm
   ·rcases Nat.lt_or_ge i n with h | h
    ·exact h
    ·rw [List.getElem?_eq_none (by simpa using h)] at h1; cases h1
  subst this
  exact h2
 ·cases h
theorem Opens.slice {P : Program} {t e : TypeId} {Q : List AV → Prop} (ht : P.underlying t = some (.slice e)) (hc : P.cellsOf t = 1) (he : Opens P e Q) (hp : 0 < P.cellsOf e) (hag : agg? P e = some true ∨ agg? P e = some false ∧ P.cellsOf e = 1) :
  Opens P t fun xs => ∃ l : List (List AV), l.length ≤ maxLen ∧ xs = [.lst (P.cellsOf e) (l.map (elemAV P e))] ∧ ∀ y ∈ l, Q y := by
 intro H enc w base spare held fuel cs x h
 rcases Deep.open_slice ht h with ⟨rfl, rfl⟩ | ⟨a, len, cap, m, n, D, Pl, rfl, hb, hl, hm, hmm, rfl, hel⟩
 ·refine ⟨_, ⟨[], by simp, rfl, by simp⟩, ⟨_, [], rfl, ⟨none, 0, rfl, by simp, by simp [maxLen], by simp⟩, rfl⟩, by rw [hc]; rfl, by simp [AV.simple], by simp [Value.oneCell']⟩
 ·have hle : len ≤ m := by rw [hmm]; split <;> omega
  have hspot0 : 0 < len → a.spot = none := fun hpos => by
   obtain ⟨cs', c1, c2⟩ := hel 0 (by omega)
   obtain ⟨ys, y1, y2, y3, y4, y5⟩ := he H enc w base spare held n cs' _ c2
   have hlen := y2.len
   have hcell := cells_get c1
   cases cs' with
   | nil => simp at hlen; omega
   | cons v vs =>
    have := hcell 0 v rfl
    simp only [Nat.zero_mul, Addr.add, if_true] at this
    unfold World.cell? at this
    split at this
    ·split at this
     ·cases this
     ·rename_i _ _ _ _ hs; simpa using hs
    ·cases this
  have hadd : a.spot = none → ∀ n, a.add n = ⟨a.block, a.off + n, none⟩ := fun hs n => by
   unfold Addr.add
   split
   ·rename_i h0; rw [h0]; cases a; simp_all
   ·rfl
  have key : ∀ k, k ≤ len → ∃ l : List (List AV), l.length = len - k ∧ (∀ y ∈ l, Q y) ∧ (l ≠ [] → a.spot = none) ∧ Rrow XN w [] (l.map (elemAV P e)) (P.cellsOf e) a.block (a.off + k * P.cellsOf e) := by
   intro k
   induction hk : len - k generalizing k with
   | zero => intro _; exact ⟨[], rfl, by simp, by simp, by simp [Rrow]⟩
   | succ j ih =>
    intro hkl
    obtain ⟨l, l1, l2, l3, l4⟩ := ih (k + 1) (by omega) (by omega)
    obtain ⟨cs', c1, c2⟩ := hel k (by omega)
    obtain ⟨ys, y1, y2, y3, y4, y5⟩ := he H enc w base spare held n cs' _ c2
    have hlen := y2.len
    have hcell := cells_get c1
    have hspot : a.spot = none := hspot0 (by omega)
    refine ⟨ys :: l, by simp; omega, by simpa using ⟨y1, l2⟩, fun _ => hspot, ?_, ?_⟩
    ·have hcell' : ∀ i v, cs'[i]? = some v → w.cell? ⟨a.block, a.off + k * P.cellsOf e + i, none⟩ = some v ∧ v.oneCell' = true := fun i v hv => by
      have h1 := hcell i v hv
      refine ⟨?_, y5 v (List.mem_of_getElem? hv)⟩
      rw [← h1, hadd hspot, Addr.add_none]
     rcases hag with hag | ⟨hag, h1⟩
     ·unfold elemAV; rw [hag]
      exact ⟨y3, Rcells_of0 y2 hcell'⟩
     ·unfold elemAV; rw [hag]
      rw [h1] at y3 ⊢
      match ys, y3 with
      | [y], _ =>
       show Re XN w [] y 1 a.block _
       rw [simple_at (y4 y (by simp))]
       obtain ⟨v, vs, rfl, q1, q2⟩ := y2
       have := hcell' 0 v rfl
       rw [h1] at this
       exact ⟨rfl, v, this.1, this.2, q1⟩
    ·have e2 : a.off + k * P.cellsOf e + P.cellsOf e = a.off + (k + 1) * P.cellsOf e := by rw [Nat.add_mul]; omega
     rw [e2]
     exact l4
  obtain ⟨l, l1, l2, l3, l4⟩ := key 0 (by omega)
  refine ⟨_, ⟨l, by omega, rfl, l2⟩, ⟨_, [], rfl, ⟨some a, cap, by simp [l1], by simp [l1]; omega, hm, fun hne => ?_⟩, rfl⟩, by rw [hc]; rfl, by simp [AV.simple], by simp [Value.oneCell']⟩
  have hne' : l ≠ [] := by intro e; subst e; simp at hne
  refine ⟨a.block, a.off, ?_, ⟨by simp, by simp⟩, hp, by simpa using l4⟩
  have := l3 hne'
  cases a; simp_all
theorem map_ex {α : Type} {P : Program} {e : TypeId} {f : α → List AV} {g : α → AV} {W : α → Prop} (hfg : ∀ a, elemAV P e (f a) = g a) : ∀ {l : List (List AV)}, (∀ y ∈ l, ∃ a, W a ∧ y = f a) → ∃ ys : List α, ys.length = l.length ∧ (∀ a ∈ ys, W a) ∧ l.map (elemAV P e) = ys.map g
 | [], _ => ⟨[], rfl, by simp, rfl⟩
 | y :: l, h => by
  obtain ⟨a, ha, rfl⟩ := h y (by simp)
  obtain ⟨ys, h0, h1, h2⟩ := map_ex hfg (l := l) fun z hz => h z (by simp [hz])
  exact ⟨a :: ys, by simp [h0], by simpa using ⟨ha, h1⟩, by simp [h2, hfg]⟩
theorem Opens.sliceT {P : Program} {t e : TypeId} {α : Type} {f : α → List AV} {g : α → AV} {W : α → Prop} (ht : P.underlying t = some (.slice e)) (hc : P.cellsOf t = 1) (he : Opens P e fun xs => ∃ a, W a ∧ xs = f a) (n : Nat) (hn : P.cellsOf e = n) (hp : 0 < n)
  (hag : agg? P e = some true ∨ agg? P e = some false ∧ n = 1) (hfg : ∀ a, elemAV P e (f a) = g a) :
  Opens P t fun xs => ∃ l : List α, (l.length ≤ maxLen ∧ ∀ a ∈ l, W a) ∧ xs = [.lst n (l.map g)] := by
 subst hn
 refine (Opens.slice ht hc he hp hag).mono ?_
 rintro xs ⟨l, h1, rfl, h2⟩
 obtain ⟨ys, h0, h3, h4⟩ := map_ex hfg h2
 exact ⟨ys, ⟨by omega, h3⟩, by rw [h4]⟩
theorem Opens.ints {P : Program} {t e : TypeId} (ht : P.underlying t = some (.slice e)) (hc : P.cellsOf t = 1) (he : P.underlying e = some (.int .i64)) (hn : P.cellsOf e = 1) (hag : agg? P e = some false) :
  Opens P t fun xs => ∃ l : List Int, (l.length ≤ maxLen ∧ ∀ a ∈ l, i64 a) ∧ xs = [.ints l] :=
 Opens.sliceT (f := fun n : Int => [AV.int n]) (g := AV.int) (W := i64) ht hc (Opens.int he hn) 1 hn (by omega) (.inr ⟨hag, rfl⟩) (fun a => by unfold elemAV; rw [hag]; rfl)
theorem Opens.strs {P : Program} {t e : TypeId} (ht : P.underlying t = some (.slice e)) (hc : P.cellsOf t = 1) (he : P.underlying e = some .string) (hn : P.cellsOf e = 1) (hag : agg? P e = some false) :
  Opens P t fun xs => ∃ l : List ByteArray, (l.length ≤ maxLen ∧ ∀ a ∈ l, a.size ≤ maxLen) ∧ xs = [.strs l] :=
 Opens.sliceT (f := fun b : ByteArray => [AV.str b]) (g := AV.str) (W := fun b => b.size ≤ maxLen) ht hc (Opens.str he hn) 1 hn (by omega) (.inr ⟨hag, rfl⟩) (fun a => by unfold elemAV; rw [hag]; rfl)
inductive OpensAll (P : Program) : List TypeId → (List AV → Prop) → Prop
 | nil : OpensAll P [] fun xs => xs = []
 | cons {t : TypeId} {ts : List TypeId} {Q Q' : List AV → Prop} : (agg? P t = some true ∨ agg? P t = some false ∧ P.cellsOf t = 1) → Opens P t Q → OpensAll P ts Q' → OpensAll P (t :: ts) fun xs => ∃ a b, xs = elemAV P t a :: b ∧ Q a ∧ Q' b
theorem okWide_agg {P : Program} {t : TypeId} {w : World} {r : Reach} {b : Nat} {v : Value} (h : agg? P t = some true) (hv : Value.okWide P w r b t v) : ∃ cs, v = .agg cs := by
 unfold agg? at h
 unfold Value.okWide at hv
 revert h hv
 cases P.underlying t with
 | none => simp
 | some d => cases d <;> simp <;> (intro x h _ _; exact ⟨x, h⟩)
theorem cells_one {v : Value} {cs : List Value} (h : v.cells.toList = cs) (h1 : cs.length = 1) (ho : ∀ u ∈ cs, u.oneCell' = true) (hn : ∀ x, v ≠ .agg x) : cs = [v] := by
 cases v <;> simp_all [Value.cells]
theorem okWide_one {P : Program} {t : TypeId} {w : World} {r : Reach} {b : Nat} {v : Value} (h : agg? P t = some false) (hv : Value.okWide P w r b t v) : ∀ cs, v ≠ .agg cs := by
 rintro cs rfl
 unfold agg? at h
 unfold Value.okWide at hv
 revert h hv
 cases hu : P.underlying t with
 | none => simp
 | some d => cases d <;> simp [Cell.okWide, Cell.ok, hu]
theorem opensAll_run {P : Program} {H : Type} {enc : TypeId × Value → H} {w : World} {base b0 : Nat} {r : Reach} {spare : Nat → Bool} {held : Bool} : ∀ {ts : List TypeId} {Q : List AV → Prop}, OpensAll P ts Q → ∀ {vs : List Value} {ds : List (DataW H)} {ps : List MemPlace},
  DataW.TrodAll enc P w base spare held ts vs ds ps → (∀ (j : Nat) t v, ts[j]? = some t → vs[j]? = some v → Value.okWide P w r b0 t v) → ∃ xs, Q xs ∧ Rvals XN w [] xs vs
 | [], _, .nil, vs, ds, ps, h, _ => by
  obtain ⟨rfl, rfl, rfl⟩ := trodAll_nil h
  exact ⟨[], rfl, rfl⟩
 | t :: ts, _, .cons hag h1 h2, vs, ds, ps, h, hv => by
  obtain ⟨v, vs', d, ds', p, q, rfl, rfl, rfl, ⟨fuel, hd⟩, hr⟩ := trodAll_cons h
  obtain ⟨a, a1, a2, a3, a4, a5⟩ := h1 H enc w base spare held fuel _ _ hd
  obtain ⟨b, b1, b2⟩ := opensAll_run h2 hr fun j t' v' ht' hv' => hv (j + 1) t' v' (by simpa using ht') (by simpa using hv')
  have hov := hv 0 t v rfl rfl
  refine ⟨elemAV P t a :: b, ⟨a, b, rfl, a1, b1⟩, v, vs', rfl, ?_, b2⟩
  rcases hag with hag | ⟨hag, hone⟩
  ·obtain ⟨cs, rfl⟩ := okWide_agg hag hov
   unfold elemAV; rw [hag]
   exact ⟨cs.toList, by simp, by simpa [Value.cells] using a2⟩
  ·have hl := a2.len
   rw [a3, hone] at hl
   have := cells_one (v := v) rfl hl a5 (okWide_one hag hov)
   rw [this] at a2
   match a, a3.trans hone with
   | [x], _ =>
    obtain ⟨u, us, e, q1, q2⟩ := a2
    simp at e
    unfold elemAV; rw [hag]
    rw [e.1]
    exact q1
theorem Tr.below {w w' : World} (h : Tr w [] w' []) : Below w.heap.size w w' :=
 ⟨h.os, h.tape, h.output, h.size, fun k hk => (h.block k (by simp) hk).2⟩
theorem trodAll_below {P : Program} {H : Type} {enc : TypeId × Value → H} {W W' : World} (hl : laidOutB P = true) (hb : Below W.heap.size W W') : ∀ {ts : List TypeId} {vs : List Value} {ds : List (DataW H)} {ps : List MemPlace},
  (∀ t ∈ ts, P.readableRec t = true ∧ t < P.types.size) → DataW.TrodAll enc P W 0 (fun _ => true) true ts vs ds ps → (∀ x ∈ ps, x.block < W.heap.size) → ∀ sp : Nat → Bool, (∀ x ∈ ps, sp x.block = true) → DataW.TrodAll enc P W' 0 sp true ts vs ds ps
 | [], vs, ds, ps, _, h, _, sp, _ => by
  obtain ⟨rfl, rfl, rfl⟩ := trodAll_nil h
  simp [DataW.TrodAll]
 | t :: ts, vs, ds, ps, hr, h, hlt, sp, hsp => by
  obtain ⟨v, vs', d, ds', p, q, rfl, rfl, rfl, h1, h2⟩ := trodAll_cons h
  refine ⟨p, q, ?_, trodAll_below hl hb (fun t ht => hr t (by simp [ht])) h2 (fun x hx => hlt x (by simp [hx])) sp (fun x hx => hsp x (by simp [hx])), rfl⟩
  exact WideElems.Trod_stays hl (hr t (by simp)).1 (hr t (by simp)).2 h1 (fun x hx => hb.same (hlt x (by simp [hx]))) (fun x hx => hsp x (by simp [hx]))
theorem post_of_below {P : Program} {H : Type} {enc : TypeId × Value → H} {f : Func} {s : ChangeSpec} {apart fresh handsOn again : Bool} {W W' : World} {args : Array Value} {v : Value} {ds gs : List (DataW H)} {before pa pv : List MemPlace}
  (hW : DataW.Whole enc P f.params.toList s.vars apart W args.toList ds gs before)
  (hres : ∀ (b : Nat) (sp : Nat → Bool) (hd : Bool), DataW.TrodAll enc P W' b sp hd f.resultTypes.toList (v.resultList f.resultTypes.size) (s.fn H (ds ++ gs)).results [])
  (hargs : ∀ sp : Nat → Bool, (∀ p ∈ before, sp p.block = true) → DataW.TrodAll enc P W' 0 sp true f.params.toList args.toList (s.fn H (ds ++ gs)).args pa)
  (hvars : ∀ sp : Nat → Bool, (∀ p ∈ before, sp p.block = true) → DataW.TrodVars enc P W' sp s.vars (s.fn H (ds ++ gs)).vars pv)
  (hps : before = pa ++ pv) (hk : W.keptBut W' (· ∈ before)) (hfz : ∀ a : Addr, a.block < W.heap.size → W'.frozen? a = W.frozen? a)
  (hok : ∀ (j : Nat) (t : TypeId) (r : Value), f.resultTypes[j]? = some t → (v.resultList f.resultTypes.size)[j]? = some r → Value.okWide P W' .any 0 t r) :
  s.post enc P f apart fresh handsOn again W args v W' := by
 have hold : ∀ p ∈ before, (fun b => decide (b < W.heap.size)) p.block = true := fun p hp => by simpa using hW.lt p hp
 refine ⟨ds, gs, before, [], pa, pv, hW, hres _ _ _, hargs _ hold, hvars _ hold, World.keptBut_mono (fun p hp => ⟨hp, ?_⟩) hk, fun _ => ?_⟩
 ·rw [hps, List.mem_append] at hp
  exact Or.inr hp
 ·have hlt := hW.lt
  obtain ⟨_, _, _, _, _, hz, hn⟩ := hW
  refine ⟨hok, _, _, ([] ++ pa) ++ pv, ⟨[] ++ pa, pv, trodAll_append (hargs _ (fun _ _ => rfl)) (hres _ _ _), hvars _ (fun _ _ => rfl), rfl, ?_, ?_⟩, ?_⟩
  ·intro b off hp
   have hp' := hp
   rw [hfz]
   ·exact hz b off (by rw [hps]; simpa using hp)
   ·have := hlt (.cell b off) (by rw [hps]; simpa using hp)
    exact this
  ·intro ha
   have := hn ha
   rw [hps] at this
   simpa using this
  ·intro p hp _
   rw [hps]
   simpa using hp
theorem law_contract_one {P : Program} {f : FuncId} {fn : Func} {s : ChangeSpec} {tb : TypeId} (hl : laidOutB P = true) (hts : ∀ t ∈ fn.params.toList, P.readableRec t = true ∧ t < P.types.size)
  (hv0 : s.vars = []) (hs : ∀ (H : Type) (ds : List (DataW H)), ds.length = fn.params.toList.length → s.fn H ds = { results := [.lit (.bool true)], args := ds }) (hrt : fn.resultTypes = #[tb]) (htb : P.underlying tb = some .bool)
  {W : World} {args : Array Value} (xs : List AV) (hR : Rvals XN W [] xs args.toList) (hp : Pure P f xs (.bool true))
  (H : Type) (enc : TypeId × Value → H) (base : Nat) (ds gs : List (DataW H)) (before : List MemPlace)
  (hval : ∀ (j : Nat) t v, fn.params[j]? = some t → args[j]? = some v → Value.okWide P W .any base t v)
  (hW : DataW.Whole enc P fn.params.toList s.vars false W args.toList ds gs before) (hgd : Gd XN W []) :
  Calls P f args W fun e W' => ∃ v, e = .returned v ∧ s.post enc P fn false true false false W args v W' := by
 have hW' := hW
 obtain ⟨p, q, hA, hV, hbef, hfz, hnd⟩ := hW
 rw [hv0] at hV
 obtain ⟨rfl, rfl⟩ := trodVars_none hV
 have hlen : ds.length = fn.params.toList.length := by
  clear hval hR hW' hV hbef hnd hfz hts hs
  generalize fn.params.toList = ts at hA
  generalize args.toList = vs at hA
  clear hv0 hrt
  revert vs ds p
  induction ts with
  | nil => intro ds p vs h; obtain ⟨rfl, rfl, rfl⟩ := trodAll_nil h; rfl
  | cons t ts ih => intro ds p vs h; obtain ⟨v, vs', d, ds', p, q, rfl, rfl, rfl, h1, h2⟩ := trodAll_cons h; simp [ih _ _ _ h2]
 have hc := hp XN W [] args.toList (Inv.empty (by simp) hgd) hR
 rw [show args.toList.toArray = args by simp] at hc
 refine hc.mono fun e W' h => ?_
 obtain ⟨v, x, m', ρ', rfl, ⟨rfl, rfl⟩, hv, hi, ht⟩ := h
 have : ρ' = [] := List.length_eq_zero_iff.1 hi.len
 subst this
 have hvb : v = .bool true := hv
 subst hvb
 have hb := ht.below
 have hlt : ∀ x ∈ p, x.block < W.heap.size := fun x hx => by simpa using hW'.lt x (by rw [hbef]; simp [hx])
 have hsf : s.fn H (ds ++ []) = { results := [.lit (.bool true)], args := ds } := by rw [List.append_nil]; exact hs H ds hlen
 refine ⟨_, rfl, post_of_below (pa := p) (pv := []) hW' ?_ ?_ ?_ hbef (hb.frame _) (fun a ha => hb.frozen ha) (ok_one hrt rfl (okWide_bool_mk htb _))⟩
 ·intro b sp hd
  rw [hrt, hsf]
  exact trodAll_cons_mk (shut_bool htb _) trodAll_mk0
 ·intro sp hsp
  rw [hsf]
  exact trodAll_below hl hb hts hA hlt sp (fun x hx => hsp x (by rw [hbef]; simp [hx]))
 ·intro sp hsp
  rw [hsf, hv0]
  rfl
theorem law_contract {P : Program} {f : FuncId} {fn : Func} {s : ChangeSpec} {Q : List AV → Prop} {tb : TypeId} (hl : laidOutB P = true) (hts : ∀ t ∈ fn.params.toList, P.readableRec t = true ∧ t < P.types.size)
  (hv0 : s.vars = []) (hs : ∀ (H : Type) (ds : List (DataW H)), ds.length = fn.params.toList.length → s.fn H ds = { results := [.lit (.bool true)], args := ds }) (hrt : fn.resultTypes = #[tb]) (htb : P.underlying tb = some .bool)
  (hO : OpensAll P fn.params.toList Q) (hp : ∀ xs, Q xs → Pure P f xs (.bool true))
  (H : Type) (enc : TypeId × Value → H) (W : World) (base : Nat) (args : Array Value) (ds gs : List (DataW H)) (before : List MemPlace)
  (hval : ∀ (j : Nat) t v, fn.params[j]? = some t → args[j]? = some v → Value.okWide P W .any base t v)
  (hW : DataW.Whole enc P fn.params.toList s.vars false W args.toList ds gs before) (hgd : Gd XN W []) :
  Calls P f args W fun e W' => ∃ v, e = .returned v ∧ s.post enc P fn false true false false W args v W' := by
 have hW0 := hW
 obtain ⟨p, q, hA, hV, hbef, hfz, hnd⟩ := hW
 obtain ⟨xs, hQ, hR⟩ := opensAll_run (r := .any) (b0 := base) hO hA (fun j t v ht hv => hval j t v (by simpa using ht) (by simpa using hv))
 exact law_contract_one hl hts hv0 hs hrt htb xs hR (hp xs hQ) H enc base ds gs before hval hW0 hgd
end Go.Vg
set_option maxHeartbeats 8000000
namespace Go.Proofs.Tryz
open Go.Vg
theorem g0Name : Tryz.prog.globalNamed "internal/strconv.uint64pow10" = some 0 := by kernel_rfl
theorem g1Name : Tryz.prog.globalNamed "padlock/room.reserved" = some 1 := by kernel_rfl
theorem gd_laid {W : World} {d1 d2 : DataW Unit} (h : laidMet Tryz.prog [("math/bits.deBruijn32tab", d1), ("math/bits.deBruijn64tab", d2), ("internal/strconv.uint64pow10", Lib.tabData .u64 Lib.pow10Tab), ("padlock/room.reserved", .slice (rsvd.map fun s => .lit (.string s.data.toList)) [])] W) : Gd XN W [] := by
 obtain ⟨ps, ⟨g1, t1, c1, f1, p1, q1, _, _, _, _, ⟨g2, t2, c2, f2, p2, q2, _, _, _, _, ⟨g3, t3, c3, f3, p3, q3, hg3, ht3, hv3, hd3, ⟨g4, t4, c4, f4, p4, q4, hg4, ht4, hv4, hd4, _, _⟩, _⟩, _⟩, _⟩, _⟩ := h
 have hcell : ∀ {n : String} {g : Nat} {cs : Array Value}, Tryz.prog.globalNamed n = some g → W.var? Tryz.prog n = some cs → ∃ e fr, W.heap[g]? = some (.cells cs e fr) := fun {n g cs} h1 h2 => by
  unfold World.var? at h2
  rw [h1, Option.bind_some] at h2
  split at h2
  ·rename_i c e fr hh
   cases h2
   exact ⟨e, fr, hh⟩
  ·cases h2
 obtain rfl := Option.some.inj (g0Name.symm.trans hg3)
 obtain rfl := Option.some.inj (g1Name.symm.trans hg4)
 obtain rfl : (208 : Nat) = t3 := Option.some.inj ((show (Tryz.prog.globals[0]?).map (·.type) = some 208 by kernel_rfl).symm.trans ht3)
 obtain rfl : (22 : Nat) = t4 := Option.some.inj ((show (Tryz.prog.globals[1]?).map (·.type) = some 22 by kernel_rfl).symm.trans ht4)
 obtain ⟨e3, fr3, h3⟩ := hcell g0Name hv3
 obtain ⟨e4, fr4, h4⟩ := hcell g1Name hv4
 have k3 := Lib.cells_of_tab Tryz.underlying208 Tryz.underlying175 (by kernel_rfl) (by kernel_rfl) hd3
 have free : ∀ b, Free XN [] b := fun b => ⟨fun h => h, fun r hr => (by cases hr)⟩
 refine ⟨fun g hg => (by cases hg), fun g s hg => ?_, fun g v hg => ?_⟩
 ·obtain ⟨rfl, rfl⟩ : 1 = g ∧ rsvd = s := by
   unfold GR at hg
   simp only [Option.some.injEq, Prod.mk.injEq] at hg
   exact hg
  rcases Deep.open_strs Tryz.underlying22 Tryz.underlying9 (by kernel_rfl) hd4 with ⟨_, hx⟩ | ⟨a, len, cap, m, Sx, hcs, hb, hl, hm, hmm, hx, hcl⟩
  ·cases hx
  ·simp only [Prod.mk.injEq, DataW.slice.injEq] at hx
   obtain ⟨⟨hx1, hx2⟩, _⟩ := hx
   have hlen : len = rsvd.length := by
    have := congrArg List.length hx1
    simpa using this.symm
   have hm2 : len ≤ m := by rw [hmm]; split <;> omega
   have hpos : 0 < rsvd.length := by decide
   have c0 := (hcl 0 (by omega)).1
   have hsp : a.spot = none := by
    unfold World.cell? at c0
    simp only [Addr.add, if_true] at c0
    split at c0
    ·split at c0
     ·cases c0
     ·rename_i hh; simpa using hh
    ·cases c0
   obtain ⟨b, o, sp⟩ := a
   simp only at hsp
   subst hsp
   refine ⟨b, o, cap, ?_, by omega, hm, hpos, fun i hi => ?_, free 1, free b⟩
   ·unfold World.cell?
    rw [h4]
    have : c4 = #[.slice (some ⟨b, o, none⟩) len cap] := by
     apply Array.toList_inj.1
     rw [hcs]
    rw [this, hlen]
    rfl
   ·have c1 := (hcl i (by omega)).1
    have e1 : (Addr.add ⟨b, o, none⟩ i) = ⟨b, o + i, none⟩ := by
     unfold Addr.add
     split
     ·rename_i hz; subst hz; rfl
     ·rfl
    rw [e1] at c1
    rw [c1]
    have e2 : (rsvd.map fun s => (DataW.lit (.string s.data.toList) : DataW Unit))[i]? = ((List.range len).map fun i => (DataW.lit (.string (Sx i).data.toList) : DataW Unit))[i]? := by rw [hx1]
    simp only [List.getElem?_map, List.getElem?_range (show i < len by omega), List.getElem?_eq_getElem hi, Option.map_some, Option.some.injEq, DataW.lit.injEq, Lit.string.injEq] at e2
    have e3 : Sx i = rsvd[i] := by
     have : (Sx i).data = (rsvd[i]).data := Array.toList_inj.1 e2.symm
     cases hq : Sx i with
     | mk d => rw [hq] at this; simp only at this; cases hr : rsvd[i] with
      | mk d' => rw [hr] at this; simp only at this; rw [this]
    rw [e3]
    simp [hi]
 ·obtain ⟨rfl, rfl⟩ : 0 = g ∧ pow10V = v := by
   unfold GV at hg
   simp only [Option.some.injEq, Prod.mk.injEq] at hg
   exact hg
  refine ⟨⟨e3, fr3, ?_⟩, free 0⟩
  rw [h3]
  have : c3 = pow10V.toArray := by
   apply Array.toList_inj.1
   rw [k3]
   simp [pow10V, Lib.pow10Tab, List.map_map]
  rw [this]
end Go.Proofs.Tryz
set_option maxHeartbeats 8000000
namespace Go.Proofs.Tryz
open Go.Vg
theorem oInt : Opens Tryz.prog 3 fun xs => ∃ n : Int, xs = [.int n] := (Opens.int Tryz.underlying3 (by kernel_rfl)).mono fun xs ⟨n, _, e⟩ => ⟨n, e⟩
theorem oBool : Opens Tryz.prog 4 fun xs => ∃ b : Bool, xs = [.bool b] := Opens.bool Tryz.underlying4 (by kernel_rfl)
theorem oStr : Opens Tryz.prog 9 fun xs => ∃ s : ByteArray, xs = [.str s] := (Opens.str Tryz.underlying9 (by kernel_rfl)).mono fun xs ⟨n, _, e⟩ => ⟨n, e⟩
theorem oInts : Opens Tryz.prog 32 fun xs => ∃ l : List Int, xs = [.ints l] := (Opens.ints Tryz.underlying32 (by kernel_rfl) Tryz.underlying3 (by kernel_rfl) (by kernel_rfl)).mono fun xs ⟨n, _, e⟩ => ⟨n, e⟩
theorem oStrs : Opens Tryz.prog 22 fun xs => ∃ l : List ByteArray, xs = [.strs l] := (Opens.strs Tryz.underlying22 (by kernel_rfl) Tryz.underlying9 (by kernel_rfl) (by kernel_rfl)).mono fun xs ⟨n, _, e⟩ => ⟨n, e⟩
theorem oLt : Opens Tryz.prog 136 fun xs => ∃ x : Lt, True ∧ xs = [.int x.th, .int x.st, .bool x.no] :=
 (Opens.struct Tryz.underlying136 (by kernel_rfl) (.cons oInt (.cons oInt (.cons oBool .nil)))).mono (by
  rintro xs ⟨_, _, rfl, ⟨a, rfl⟩, _, _, rfl, ⟨b, rfl⟩, _, _, rfl, ⟨c, rfl⟩, rfl⟩
  exact ⟨⟨a, b, c⟩, trivial, rfl⟩)
theorem oCd : Opens Tryz.prog 29 fun xs => ∃ l : List Lt, xs = [.lst 3 (l.map ltA)] :=
 (Opens.sliceT (f := fun x : Lt => [AV.int x.th, AV.int x.st, AV.bool x.no]) (g := ltA) (W := fun _ => True) Tryz.underlying29 (by kernel_rfl) oLt 3 (by kernel_rfl) (by decide) (.inl (by kernel_rfl)) (fun _ => by unfold elemAV; rw [Go.Proofs.Tryz.agg_136]; rfl)).mono fun xs ⟨n, _, e⟩ => ⟨n, e⟩
theorem oSe : Opens Tryz.prog 106 fun xs => ∃ x : Se, True ∧ xs = [.int x.th, .int x.st] :=
 (Opens.struct Tryz.underlying106 (by kernel_rfl) (.cons oInt (.cons oInt .nil))).mono (by
  rintro xs ⟨_, _, rfl, ⟨a, rfl⟩, _, _, rfl, ⟨b, rfl⟩, rfl⟩
  exact ⟨⟨a, b⟩, trivial, rfl⟩)
theorem oSes : Opens Tryz.prog 101 fun xs => ∃ l : List Se, xs = [.lst 2 (l.map seA)] :=
 (Opens.sliceT (f := fun x : Se => [AV.int x.th, AV.int x.st]) (g := seA) (W := fun _ => True) Tryz.underlying101 (by kernel_rfl) oSe 2 (by kernel_rfl) (by decide) (.inl (by kernel_rfl)) (fun _ => by unfold elemAV; rw [Go.Proofs.Tryz.agg_106]; rfl)).mono fun xs ⟨n, _, e⟩ => ⟨n, e⟩
theorem oTh : Opens Tryz.prog 73 fun xs => ∃ x : Th, True ∧ xs = [.str x.nm, .int x.pl, .int x.ss, .int x.st] :=
 (Opens.struct Tryz.underlying73 (by kernel_rfl) (.cons oStr (.cons oInt (.cons oInt (.cons oInt .nil))))).mono (by
  rintro xs ⟨_, _, rfl, ⟨a, rfl⟩, _, _, rfl, ⟨b, rfl⟩, _, _, rfl, ⟨c, rfl⟩, _, _, rfl, ⟨d, rfl⟩, rfl⟩
  exact ⟨⟨a, b, c, d⟩, trivial, rfl⟩)
theorem oThs : Opens Tryz.prog 23 fun xs => ∃ l : List Th, xs = [.lst 4 (l.map thA)] :=
 (Opens.sliceT (f := fun x : Th => [AV.str x.nm, AV.int x.pl, AV.int x.ss, AV.int x.st]) (g := thA) (W := fun _ => True) Tryz.underlying23 (by kernel_rfl) oTh 4 (by kernel_rfl) (by decide) (.inl (by kernel_rfl)) (fun _ => by unfold elemAV; rw [Go.Proofs.Tryz.agg_73]; rfl)).mono fun xs ⟨n, _, e⟩ => ⟨n, e⟩
theorem oPp : Opens Tryz.prog 98 fun xs => ∃ x : Pp, True ∧ xs = [.str x.nm, .int x.pl, .lst 3 (x.wh.map ltA)] :=
 (Opens.struct Tryz.underlying98 (by kernel_rfl) (.cons oStr (.cons oInt (.cons oCd .nil)))).mono (by
  rintro xs ⟨_, _, rfl, ⟨a, rfl⟩, _, _, rfl, ⟨b, rfl⟩, _, _, rfl, ⟨c, rfl⟩, rfl⟩
  exact ⟨⟨a, b, c⟩, trivial, rfl⟩)
theorem oPps : Opens Tryz.prog 24 fun xs => ∃ l : List Pp, xs = [.lst 3 (l.map ppA)] :=
 (Opens.sliceT (f := fun x : Pp => [AV.str x.nm, AV.int x.pl, AV.lst 3 (x.wh.map ltA)]) (g := ppA) (W := fun _ => True) Tryz.underlying24 (by kernel_rfl) oPp 3 (by kernel_rfl) (by decide) (.inl (by kernel_rfl)) (fun _ => by unfold elemAV; rw [Go.Proofs.Tryz.agg_98]; rfl)).mono fun xs ⟨n, _, e⟩ => ⟨n, e⟩
theorem oWy : Opens Tryz.prog 100 fun xs => ∃ x : Wy, True ∧ xs = [.int x.a, .int x.b, .lst 3 (x.wh.map ltA)] :=
 (Opens.struct Tryz.underlying100 (by kernel_rfl) (.cons oInt (.cons oInt (.cons oCd .nil)))).mono (by
  rintro xs ⟨_, _, rfl, ⟨a, rfl⟩, _, _, rfl, ⟨b, rfl⟩, _, _, rfl, ⟨c, rfl⟩, rfl⟩
  exact ⟨⟨a, b, c⟩, trivial, rfl⟩)
theorem oWys : Opens Tryz.prog 25 fun xs => ∃ l : List Wy, xs = [.lst 3 (l.map wyA)] :=
 (Opens.sliceT (f := fun x : Wy => [AV.int x.a, AV.int x.b, AV.lst 3 (x.wh.map ltA)]) (g := wyA) (W := fun _ => True) Tryz.underlying25 (by kernel_rfl) oWy 3 (by kernel_rfl) (by decide) (.inl (by kernel_rfl)) (fun _ => by unfold elemAV; rw [Go.Proofs.Tryz.agg_100]; rfl)).mono fun xs ⟨n, _, e⟩ => ⟨n, e⟩
theorem oAc : Opens Tryz.prog 103 fun xs => ∃ x : Ac, True ∧ xs = [.str x.nm, .int x.pl, .int x.lk, .ints x.us, .lst 3 (x.wh.map ltA), .lst 2 (x.se.map seA), .ints x.sp, .ints x.br] :=
 (Opens.struct Tryz.underlying103 (by kernel_rfl) (.cons oStr (.cons oInt (.cons oInt (.cons oInts (.cons oCd (.cons oSes (.cons oInts (.cons oInts .nil))))))))).mono (by
  rintro xs ⟨_, _, rfl, ⟨a, rfl⟩, _, _, rfl, ⟨b, rfl⟩, _, _, rfl, ⟨c, rfl⟩, _, _, rfl, ⟨d, rfl⟩, _, _, rfl, ⟨e, rfl⟩, _, _, rfl, ⟨f, rfl⟩, _, _, rfl, ⟨g, rfl⟩, _, _, rfl, ⟨h, rfl⟩, rfl⟩
  exact ⟨⟨a, b, c, d, e, f, g, h⟩, trivial, rfl⟩)
theorem oAcs : Opens Tryz.prog 26 fun xs => ∃ l : List Ac, xs = [.lst 8 (l.map acA)] :=
 (Opens.sliceT (f := fun x : Ac => [AV.str x.nm, AV.int x.pl, AV.int x.lk, AV.ints x.us, AV.lst 3 (x.wh.map ltA), AV.lst 2 (x.se.map seA), AV.ints x.sp, AV.ints x.br]) (g := acA) (W := fun _ => True) Tryz.underlying26 (by kernel_rfl) oAc 8 (by kernel_rfl) (by decide) (.inl (by kernel_rfl)) (fun _ => by unfold elemAV; rw [Go.Proofs.Tryz.agg_103]; rfl)).mono fun xs ⟨n, _, e⟩ => ⟨n, e⟩
theorem oAu : Opens Tryz.prog 108 fun xs => ∃ x : Au, True ∧ xs = [.lst 3 (x.wh.map ltA), .int x.th, .int x.st] :=
 (Opens.struct Tryz.underlying108 (by kernel_rfl) (.cons oCd (.cons oSe .nil))).mono (by
  rintro xs ⟨_, _, rfl, ⟨a, rfl⟩, _, _, rfl, ⟨b, _, rfl⟩, rfl⟩
  exact ⟨⟨a, b.th, b.st⟩, trivial, rfl⟩)
theorem oAus : Opens Tryz.prog 27 fun xs => ∃ l : List Au, xs = [.lst 3 (l.map auA)] :=
 (Opens.sliceT (f := fun x : Au => [AV.lst 3 (x.wh.map ltA), AV.int x.th, AV.int x.st]) (g := auA) (W := fun _ => True) Tryz.underlying27 (by kernel_rfl) oAu 3 (by kernel_rfl) (by decide) (.inl (by kernel_rfl)) (fun _ => by unfold elemAV; rw [Go.Proofs.Tryz.agg_108]; rfl)).mono fun xs ⟨n, _, e⟩ => ⟨n, e⟩
theorem oRm : Opens Tryz.prog 31 fun xs => ∃ r : Rm, xs = rmC r :=
 (Opens.struct Tryz.underlying31 (by kernel_rfl) (.cons oStrs (.cons oThs (.cons oPps (.cons oWys (.cons oAcs (.cons oAus (.cons oInt (.cons oCd .nil))))))))).mono (by
  rintro xs ⟨_, _, rfl, ⟨a, rfl⟩, _, _, rfl, ⟨b, rfl⟩, _, _, rfl, ⟨c, rfl⟩, _, _, rfl, ⟨d, rfl⟩, _, _, rfl, ⟨e, rfl⟩, _, _, rfl, ⟨f, rfl⟩, _, _, rfl, ⟨g, rfl⟩, _, _, rfl, ⟨h, rfl⟩, rfl⟩
  exact ⟨⟨a, b, c, d, e, f, g, h⟩, rfl⟩)
theorem oSt : Opens Tryz.prog 34 fun xs => ∃ s : St, xs = [.ints s.ts, .ints s.pp, .ints s.pl] :=
 (Opens.struct Tryz.underlying34 (by kernel_rfl) (.cons oInts (.cons oInts (.cons oInts .nil)))).mono (by
  rintro xs ⟨_, _, rfl, ⟨a, rfl⟩, _, _, rfl, ⟨b, rfl⟩, _, _, rfl, ⟨c, rfl⟩, rfl⟩
  exact ⟨⟨a, b, c⟩, rfl⟩)
theorem oRS : OpensAll Tryz.prog [31, 34] fun xs => ∃ (r : Rm) (s : St), xs = [rmA r, stA s] := by
 have h := OpensAll.cons (P := Tryz.prog) (.inl (by kernel_rfl)) oRm (OpensAll.cons (.inl (by kernel_rfl)) oSt OpensAll.nil)
 have e : (fun xs => ∃ a b, xs = elemAV Tryz.prog 31 a :: b ∧ (∃ r : Rm, a = rmC r) ∧ ∃ a' b', b = elemAV Tryz.prog 34 a' :: b' ∧ (∃ s : St, a' = [.ints s.ts, .ints s.pp, .ints s.pl]) ∧ b' = []) = fun xs => ∃ (r : Rm) (s : St), xs = [rmA r, stA s] := by
  have h1 : ∀ a, elemAV Tryz.prog 31 a = .agg a := fun a => by unfold elemAV; rw [Go.Proofs.Tryz.agg_31]
  have h2 : ∀ a, elemAV Tryz.prog 34 a = .agg a := fun a => by unfold elemAV; rw [Go.Proofs.Tryz.agg_34]
  funext xs
  apply propext
  constructor
  ·rintro ⟨_, _, rfl, ⟨r, rfl⟩, _, _, rfl, ⟨s, rfl⟩, rfl⟩
   exact ⟨r, s, by rw [h1, h2]; rfl⟩
  ·rintro ⟨r, s, rfl⟩
   exact ⟨_, _, by rw [h1]; rfl, ⟨r, rfl⟩, _, _, by rw [h2]; rfl, ⟨s, rfl⟩, rfl⟩
 rw [← e]
 exact h
end Go.Proofs.Tryz
set_option maxHeartbeats 8000000
namespace Go.Proofs.Tryz
open Go.Vg
end Go.Proofs.Tryz
