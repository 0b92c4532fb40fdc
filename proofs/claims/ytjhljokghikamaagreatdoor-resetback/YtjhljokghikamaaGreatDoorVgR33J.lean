/- A part of the proof of ResetBack: contracts of functions, with plain laws that they need. -/
import Derived.Test.YtjhljokghikamaaGreatDoorVgR23J
set_option linter.all false
set_option maxHeartbeats 16000000
namespace Go.Proofs.Tryz
open Go.Vg

/-! how a room stands for the keeper -/
structure Sd where
  ts : List Int
  pp : List Int
  at_ : Int
  deriving DecidableEq
instance : Inhabited Sd := ⟨⟨[], [], 0⟩⟩
def sdS (pl : List Int) (x : Sd) : St := ⟨x.ts, x.pp, pl⟩
def sdK (x : Sd) : ByteArray := kyB x.at_ (x.ts ++ x.pp)
def nxT (r : Rm) (f : St) (pl : List Int) (x : Sd) (t : Tk) : Sd := ⟨(doS r f (sdS pl x) x.at_ t).ts, (doS r f (sdS pl x) x.at_ t).pp, doA r x.at_ t⟩
def nxR (r : Rm) (f : St) (pl : List Int) (x : Sd) (k : Nat) : Sd := if canB r f (sdS pl x) x.at_ ((tkL r).getD k tk0) = true then nxT r f pl x ((tkL r).getD k tk0) else x
def SdOk (r : Rm) (pl : List Int) (x : Sd) : Prop := SV r (sdS pl x) ∧ 0 ≤ x.at_ ∧ x.at_ ≤ (r.ps.length : Int) - 1
theorem doS_pl (r : Rm) (f s : St) (a : Int) (t : Tk) : (doS r f s a t).pl = s.pl := by unfold doS; split <;> first | rfl | (split <;> rfl)
theorem nx_sdS (r : Rm) (f : St) (pl : List Int) (x : Sd) (t : Tk) : sdS pl (nxT r f pl x t) = doS r f (sdS pl x) x.at_ t := by
  have := doS_pl r f (sdS pl x) x.at_ t
  unfold sdS nxT
  simp only
  cases h : doS r f (sdS pl x) x.at_ t with
  | mk a b c => 
    unfold sdS at h this
    rw [h] at this ⊢
    simp only at this
    rw [this]
theorem getD_set {l : List Int} {i j : Nat} {x d : Int} : (l.set i x).getD j d = if i = j ∧ j < l.length then x else l.getD j d := by
  simp only [List.getD_eq_getElem?_getD, List.getElem?_set]
  by_cases h : i = j
  · subst h
    by_cases h2 : i < l.length
    · simp [h2]
    · simp [h2]
  · simp [h]
theorem nx_ok {r : Rm} (hv : RV r) {f : St} (hf : SV r f) {pl : List Int} {x : Sd} (hx : SdOk r pl x) {t : Tk} (hc : canB r f (sdS pl x) x.at_ t = true) : SdOk r pl (nxT r f pl x t) := by
  obtain ⟨h1, h2, h3⟩ := hx
  unfold SdOk
  rw [nx_sdS]
  unfold canB at hc
  unfold doS
  have hat : (nxT r f pl x t).at_ = doA r x.at_ t := rfl
  rw [hat]
  unfold doA
  split at hc
  · rename_i hk
    rw [hk]
    simp only [show ¬((1 : Int) = 2) by omega, show ¬((1 : Int) = 3) by omega, if_false, if_true]
    refine ⟨h1, ?_⟩
    unfold wkB wi at hc
    simp only [Bool.and_eq_true, Bool.or_eq_true, decide_eq_true_eq] at hc
    obtain ⟨⟨_, q1, q2⟩, q3⟩ := hc
    have hn : t.nu.toNat < r.wy.length := by omega
    have hm := hv.wyv (r.wy.getD t.nu.toNat wy0) (by rw [show r.wy.getD t.nu.toNat wy0 = r.wy[t.nu.toNat] by simp [hn]]; exact List.getElem_mem _)
    rcases q3 with q3 | q3 <;> omega
  · rename_i hk1
    split at hc
    · rename_i hk
      rw [hk]
      simp only [show ¬((2 : Int) = 1) by omega, if_false, if_true]
      unfold tnB wi at hc
      simp only [Bool.and_eq_true, decide_eq_true_eq] at hc
      obtain ⟨⟨q1, q2⟩, ⟨q3, q4, q5⟩, q6⟩ := hc
      refine ⟨⟨by simp only [List.length_set]; exact h1.ts, h1.pp, h1.pl, fun i hi => ?_, h1.ppv, h1.plv⟩, h2, h3⟩
      simp only [List.length_set] at hi
      simp only [getD_set]
      split
      · rename_i e
        rw [← e.1]
        exact ⟨q4, q5⟩
      · exact h1.tsv i hi
    · rename_i hk2
      split at hc
      · rename_i hk
        rw [hk]
        simp only [show ¬((3 : Int) = 1) by omega, show ¬((3 : Int) = 2) by omega, if_false, if_true]
        unfold ptB wi at hc
        simp only [Bool.and_eq_true, decide_eq_true_eq] at hc
        obtain ⟨⟨⟨_, q1, q2⟩, _⟩, _⟩ := hc
        have hn : t.nu.toNat < f.pp.length := by have := hf.pp; omega
        refine ⟨⟨h1.ts, by simp only [List.length_set]; exact h1.pp, h1.pl, h1.tsv, fun y hy => ?_, h1.plv⟩, h2, h3⟩
        rcases List.mem_or_eq_of_mem_set hy with hy | rfl
        · exact h1.ppv y hy
        · exact hf.ppv _ (by rw [show f.pp.getD t.nu.toNat 0 = f.pp[t.nu.toNat] by simp [hn]]; exact List.getElem_mem _)
      · cases hc
/-- the numbers in a stand are small -/
theorem sd_inR {r : Rm} (hv : RV r) {pl : List Int} {x : Sd} (hx : SdOk r pl x) : inR x.at_ ∧ ∀ n ∈ x.ts ++ x.pp, inR n := by
  obtain ⟨h1, h2, h3⟩ := hx
  have hp := hv.ps
  have hn := hv.n
  refine ⟨by unfold inR; omega, fun n hn2 => ?_⟩
  rcases List.mem_append.1 hn2 with h | h
  · obtain ⟨i, hi, rfl⟩ := List.getElem_of_mem h
    have h4 := h1.tsv i hi
    have h5 := h1.ts
    simp only [sdS] at h4 h5
    have e : x.ts.getD i 0 = x.ts[i] := by simp [hi]
    have hi2 : i < r.ts.length := by omega
    have h6 := (hv.tsv (r.ts.getD i th0) (by rw [show r.ts.getD i th0 = r.ts[i] by simp [hi2]]; exact List.getElem_mem _)).2.1
    rw [e] at h4
    unfold inR; omega
  · have h4 := h1.ppv n h
    unfold inR; omega
theorem sd_inj {r : Rm} (hv : RV r) {pl : List Int} {x y : Sd} (hx : SdOk r pl x) (hy : SdOk r pl y) (h : sdK x = sdK y) : x = y := by
  obtain ⟨a1, a2⟩ := sd_inR hv hx
  obtain ⟨b1, b2⟩ := sd_inR hv hy
  obtain ⟨e1, e2⟩ := kyB_inj a1 b1 a2 b2 h
  have l1 : x.ts.length = y.ts.length := by rw [show x.ts.length = r.ts.length from hx.1.ts, show y.ts.length = r.ts.length from hy.1.ts]
  obtain ⟨e3, e4⟩ := List.append_inj e2 l1
  cases x; cases y
  simp_all

/-! the stands in memory -/
def elT (r : Rm) (j : Nat) (p : Sd × Nat × Nat) : Tk := if j = 0 then tk0 else (tkL r).getD p.2.2 tk0
def elB (j : Nat) (p : Sd × Nat × Nat) : Int := if j = 0 then -1 else p.2.1
def elC (r : Rm) (f : St) (pl : List Int) (j : Nat) (p : Sd × Nat × Nat) : List AV := [.strs r.ps, .lst 4 (r.ts.map thA), .lst 3 (r.pp.map ppA), .lst 3 (r.wy.map wyA), .lst 8 (r.ac.map acA), .lst 3 (r.au.map auA), .int r.n, .lst 3 (r.goal.map ltA), .ints f.ts, .ints f.pp, .ints f.pl, .ints p.1.ts, .ints p.1.pp, .ints pl, .int p.1.at_, .int (elB j p), .int (elT r j p).kd, .int (elT r j p).nu, .int (elT r j p).ar]
def elA (r : Rm) (f : St) (pl : List Int) (j : Nat) (p : Sd × Nat × Nat) : AV := .agg (elC r f pl j p)
def stdL (r : Rm) (f : St) (pl : List Int) (S : SL Sd) : List AV := (List.range S.length).map fun j => elA r f pl j (S.getD j (default, 0, 0))
theorem stdL_len (r : Rm) (f : St) (pl : List Int) (S : SL Sd) : (stdL r f pl S).length = S.length := by simp [stdL]
theorem stdL_getD {r : Rm} {f : St} {pl : List Int} {S : SL Sd} {i : Nat} (d : AV) (h : i < S.length) : (stdL r f pl S).getD i d = elA r f pl i (S.getD i (default, 0, 0)) := by
  simp [stdL, h]
theorem stdL_snoc (r : Rm) (f : St) (pl : List Int) (S : SL Sd) (p : Sd × Nat × Nat) : stdL r f pl (S ++ [p]) = stdL r f pl S ++ [elA r f pl S.length p] := by
  unfold stdL
  rw [List.length_append, List.length_singleton, List.range_succ, List.map_append, List.map_singleton]
  congr 1
  · refine List.map_congr_left fun j hj => ?_
    have hj := List.mem_range.1 hj
    have : (S ++ [p]).getD j (default, 0, 0) = S.getD j (default, 0, 0) := by
      simp only [List.getD_eq_getElem?_getD]; rw [List.getElem?_append_left hj]
    rw [this]
  · simp
theorem okL_std (k : Nat) (r : Rm) (f : St) (pl : List Int) (S : SL Sd) : okL k (stdL r f pl S) = True := eq_true (by
  unfold stdL
  generalize List.range S.length = L
  induction L with
  | nil => trivial
  | cons a l ih => exact ⟨by simp [elA, elC, okL, AV.ok, okL_str, okL_th, okL_pp, okL_wy, okL_ac, okL_au, okL_lt, okL_mapInt], ih⟩)
/-- all stands so far are stands of the room -/
def allOk (r : Rm) (pl : List Int) (S : SL Sd) : Prop := ∀ j, j < S.length → SdOk r pl (sc S j)
theorem sc_old {S : SL Sd} {p : Sd × Nat × Nat} {j : Nat} (h : j < S.length) : (S ++ [p]).getD j (default, 0, 0) = S.getD j (default, 0, 0) := by
  simp only [List.getD_eq_getElem?_getD]; rw [List.getElem?_append_left h]
theorem allOk_snoc {r : Rm} {pl : List Int} {S : SL Sd} (h : allOk r pl S) {p : Sd × Nat × Nat} (hp : SdOk r pl p.1) : allOk r pl (S ++ [p]) := by
  intro j hj
  rcases Nat.lt_or_ge j S.length with q | q
  · unfold sc; rw [sc_old q]; exact h j q
  · have : j = S.length := by simp at hj; omega
    subst this
    simp [sc, hp]
end Go.Proofs.Tryz
set_option maxHeartbeats 16000000
namespace Go.Proofs.Tryz
open Go.Vg

/-! keys of a map -/
theorem keyedStr : Maps.Keyed Tryz.prog 9 := kdB_ok (by kernel_rfl)
theorem goodStr {s : ByteArray} (h : s.size ≤ 1000) : goodK Tryz.prog 9 (.string s) = true := by
  simp [goodK, WideMaps.keyOf_string_mk (P := Tryz.prog) (k := 9) Tryz.underlying9 (s := s) (by unfold maxLen; omega)]
theorem sdK_size {r : Rm} (hv : RV r) {pl : List Int} {x : Sd} (hx : SdOk r pl x) : (sdK x).size ≤ 1000 := by
  have h1 := kyB_size x.at_ (x.ts ++ x.pp)
  have h2 : x.ts.length = r.ts.length := hx.1.ts
  have h3 : x.pp.length = r.pp.length := hx.1.pp
  have h4 := hv.ts
  have h5 := hv.pp
  rw [List.length_append] at h1
  unfold sdK
  omega
theorem goodL_mpK {r : Rm} (hv : RV r) {pl : List Int} {S : SL Sd} (h : allOk r pl S) : goodL Tryz.prog 9 (mpK sdK S) = true := by
  unfold mpK
  have hL : ∀ j ∈ List.range S.length, (sdK (sc S j)).size ≤ 1000 := fun j hj => sdK_size hv (h j (List.mem_range.1 hj))
  generalize List.range S.length = L at hL
  induction L with
  | nil => rfl
  | cons a l ih =>
    simp only [List.map_cons, goodL, goodStr (hL a (by simp))]
    exact ih fun j hj => hL j (by simp [hj])
theorem updL_new : ∀ (l : List (Value × AV)) (k : Value) (x : AV), findL l k = none → updL l k x = l ++ [(k, x)]
  | [], k, x, _ => rfl
  | (k0, y) :: l, k, x, h => by
    simp only [findL, updL, List.cons_append] at h ⊢
    cases hb : eqKey k0 k with
    | true => rw [hb] at h; cases h
    | false => rw [hb] at h; simp only at h ⊢; rw [updL_new l k x h]

/-! Reverse, of an own slice behind others -/
theorem rev_swap {l : List Tk} {i : Nat} (hi : i < l.length) {A : List Tk} (hA : A = (List.range l.length).map fun k : Nat => if k < i ∨ l.length - 1 - k < i then l.getD (l.length - 1 - k) tk0 else l.getD k tk0) (hlt : i < l.length - 1 - i) :
    (A.set i (A.getD (l.length - 1 - i) tk0)).set (l.length - 1 - i) (A.getD i tk0) = (List.range l.length).map fun k : Nat => if k < i + 1 ∨ l.length - 1 - k < i + 1 then l.getD (l.length - 1 - k) tk0 else l.getD k tk0 := by
  have hAl : A.length = l.length := by rw [hA]; simp
  have hAg : ∀ k, k < l.length → A.getD k tk0 = if k < i ∨ l.length - 1 - k < i then l.getD (l.length - 1 - k) tk0 else l.getD k tk0 := fun k hk => by rw [hA]; simp [hk]
  apply List.ext_getElem
  · simp [hAl]
  · intro k h1 h2
    have hk : k < l.length := by simpa using h2
    have hA1 : A.getD i tk0 = l.getD i tk0 := by have := hAg i hi; rw [if_neg (by omega)] at this; exact this
    have hA2 : A.getD (l.length - 1 - i) tk0 = l.getD (l.length - 1 - i) tk0 := by have := hAg (l.length - 1 - i) (by omega); rw [if_neg (by omega)] at this; exact this
    simp only [List.getElem_set, hA1, hA2]
    have e3 : A[k]'(by omega) = A.getD k tk0 := by simp [show k < A.length by omega]
    have hA3 := hAg k hk
    rw [e3, hA3]
    simp only [List.getElem_map, List.getElem_range]
    by_cases q1 : l.length - 1 - i = k
    · rw [if_pos q1, if_pos (by omega), show l.length - 1 - k = i by omega]
    · rw [if_neg q1]
      by_cases q2 : i = k
      · rw [if_pos q2, if_pos (by omega), show l.length - 1 - k = l.length - 1 - i by omega]
      · rw [if_neg q2]
        by_cases q3 : k < i ∨ l.length - 1 - k < i
        · rw [if_pos q3, if_pos (by omega)]
        · rw [if_neg q3, if_neg (by omega)]
def rvN (l : List Tk) (i : Nat) : List Tk := (List.range l.length).map fun k : Nat => if k < i ∨ l.length - 1 - k < i then l.getD (l.length - 1 - k) tk0 else l.getD k tk0
theorem rvN_len (l : List Tk) (i : Nat) : (rvN l i).length = l.length := by simp [rvN]
theorem rvN_zero (l : List Tk) : rvN l 0 = l := by
  apply List.ext_getElem
  · simp [rvN]
  · intro k h1 h2
    simp [rvN, h2]
theorem rvN_all (l : List Tk) {i : Nat} (h : l.length - 1 - i ≤ i) : rvN l i = l.reverse := by
  apply List.ext_getElem
  · simp [rvN]
  · intro k h1 h2
    have hk : k < l.length := by simpa using h2
    simp only [rvN, List.getElem_map, List.getElem_range, List.getElem_reverse]
    by_cases q : k < i ∨ l.length - 1 - k < i
    · rw [if_pos q]; simp [show l.length - 1 - k < l.length by omega]
    · rw [if_neg q]
      have : l.length - 1 - k = k := by omega
      simp [this, hk]
theorem rvN_succ (l : List Tk) {i : Nat} (h : i < l.length - 1 - i) : ((rvN l i).set i ((rvN l i).getD (l.length - 1 - i) tk0)).set (l.length - 1 - i) ((rvN l i).getD i tk0) = rvN l (i + 1) := rev_swap (by omega) rfl h
theorem getD_tk {l : List Tk} {i : Nat} (d : AV) (h : i < l.length) : (l.map tkA).getD i d = tkA (l.getD i tk0) := getD_mapE tkA l tk0 h
theorem rev_spec {a0 a1 a2 a3 a4 a5 a6 a7 a8 a9 : Ent} (v : Nat) (l : List Tk) (hl : l.length ≤ 100000) : Go.Vg.Spec Tryz.prog 55 [.osl 10 v 0 l.length] [a0, a1, a2, a3, a4, a5, a6, a7, a8, a9, ⟨v, .row 3 (l.map tkA)⟩] (fun x m' => x = .tup [] ∧ m' = [a0, a1, a2, a3, a4, a5, a6, a7, a8, a9, ⟨v, .row 3 (l.reverse.map tkA)⟩]) := by
  (refine Spec.of_bodyA Tryz.func55 rfl (by rw [Tryz.ntmps55]; simp) ?_; rw [Tryz.results55, Tryz.ntmps55]; simp only [entry, zipArgs, Nat.reduceAdd])
  (refine w_go ?_)
  refine Wp.loop (fun (k : Nat) => { t := [(0, .osl 10 v 0 l.length), (2, .int k), (3, .int ((l.length : Int) - 1 - k))], m := [a0, a1, a2, a3, a4, a5, a6, a7, a8, a9, ⟨v, .row 3 ((rvN l k).map tkA)⟩], n := 28 }) (fun k => k ≤ l.length) (fun k => l.length - k) 0 ?_ ?_ ?_
  · (refine Le.of ?_ ?_ rfl rfl <;> (try simp only [push_cast, seval]) <;> (try (with_reducible rfl)))
    all_goals first
      | (rw [rvN_zero]; done)
      | rfl
      | simp
  · simp
  · intro k hk
    (refine w_go ?_)
    (apply Wp.cond; (exact w_ev))
    · intro hc
      have hc : (k : Int) < (l.length : Int) - 1 - k := by simpa using hc
      have hst := rvN_succ l (i := k) (by omega)
      have hul := rvN_len l k
      obtain ⟨j, hj⟩ : ∃ j : Nat, l.length - 1 - k = j := ⟨_, rfl⟩
      have hj2 : (l.length : Int) - 1 - (k : Int) = (j : Int) := by omega
      rw [hj] at hst
      rw [hj2]
      generalize rvN l k = U at hst hul
      have g1 := fun d => getD_tk (l := U) (i := k) d (by omega)
      have g2 := fun d => getD_tk (l := U) (i := j) d (by omega)
      generalize hx : U.getD k tk0 = x at hst g1
      generalize hy : U.getD j tk0 = y at hst g2
      have hss : ∀ (l : List Tk) (i : Nat) (x : Tk), (l.map tkA).set i (.agg [.int x.kd, .int x.nu, .int x.ar]) = (l.set i x).map tkA := fun l i x => by rw [List.map_set]; rfl
      have hjl : j < U.length := by omega
      have g3 := fun d => getD_tk (l := U.set k y) (i := j) d (by rw [List.length_set]; omega)
      (refine x_go (zc @g1 (zc @g2 (zc @g3 (zc @drpS (zc @drpZ (zc @hss (zc @tkA.eq_1 (zc @hul (zc @lenMp @lenSt))))))))) ?_)
      (apply Wp.runW 13 15 (fun _ => [a0, a1, a2, a3, a4, a5, a6, a7, a8, a9, ⟨v, .row 3 ((U.set k y).map tkA)⟩]) mixed; (dsimp only [List.map] <;> exact rfl); exact rfl; kernel_rfl; kernel_rfl; (dsimp only; ((repeat (refine x_wn (zc @g1 (zc @g2 (zc @g3 (zc @drpS (zc @drpZ (zc @hss (zc @tkA.eq_1 (zc @hul (zc @lenMp @lenSt))))))))) ?_)); (refine x_we (zc @g1 (zc @g2 (zc @g3 (zc @drpS (zc @drpZ (zc @hss (zc @tkA.eq_1 (zc @hul (zc @lenMp @lenSt))))))))) ?_); (repeat (refine x_wn (zc @g1 (zc @g2 (zc @g3 (zc @drpS (zc @drpZ (zc @hss (zc @tkA.eq_1 (zc @hul (zc @lenMp @lenSt))))))))) ?_)); (refine x_we (zc @g1 (zc @g2 (zc @g3 (zc @drpS (zc @drpZ (zc @hss (zc @tkA.eq_1 (zc @hul (zc @lenMp @lenSt))))))))) ?_); (repeat (refine x_wn (zc @g1 (zc @g2 (zc @g3 (zc @drpS (zc @drpZ (zc @hss (zc @tkA.eq_1 (zc @hul (zc @lenMp @lenSt))))))))) ?_)); (refine x_w1 (zc @g1 (zc @g2 (zc @g3 (zc @drpS (zc @drpZ (zc @hss (zc @tkA.eq_1 (zc @hul (zc @lenMp @lenSt))))))))) ?_); (refine x_wn (zc @g1 (zc @g2 (zc @g3 (zc @drpS (zc @drpZ (zc @hss (zc @tkA.eq_1 (zc @hul (zc @lenMp @lenSt))))))))) ?_); (refine x_w2 (zc @g1 (zc @g2 (zc @g3 (zc @drpS (zc @drpZ (zc @hss (zc @tkA.eq_1 (zc @hul (zc @lenMp @lenSt))))))))) ?_)); exact AbW.nil))
      (refine x_go (zc @g1 (zc @g2 (zc @g3 (zc @drpS (zc @drpZ (zc @hss (zc @tkA.eq_1 (zc @hul (zc @lenMp @lenSt))))))))) ?_)
      refine ⟨k + 1, ?_, by omega, by omega⟩
      rw [← hst]
      (refine Le.of ?_ ?_ rfl rfl <;> (try simp only [push_cast, seval, g1, g2, g3, List.drop_succ_cons, List.drop_zero, hss, tkA, hul, List.length_map, List.length_set]) <;> (try (with_reducible rfl)))
      all_goals (try (congr 2; omega))
    · intro hc
      have hc : ¬ (k : Int) < (l.length : Int) - 1 - k := by simpa using hc
      have hall := rvN_all l (i := k) (by omega)
      rw [hall]
      (refine w_go ?_)
      apply leaveAN; exact rfl; (exact w_ev); ((exact w_cl)); (try simp only [push_cast, seval])
end Go.Proofs.Tryz
set_option maxHeartbeats 16000000
namespace Go.Proofs.Tryz
open Go.Vg

theorem do_spec {r : Rm} (hv : RV r) {f : St} (hf : SV r f) {s : St} (hs : SV r s) {a : Int} (ha : 0 ≤ a ∧ a ≤ 100) {t : Tk} (hc : canB r f s a t = true) {a0 a1 a2 a3 a4 a5 : Ent} (h0 : a0.kind.ok 10) (h1 : a1.kind.ok 10) (h2 : a2.kind.ok 10) (h3 : a3.kind.ok 10) (h4 : a4.kind.ok 10) (h5 : a5.kind.ok 10) (v6 v7 v8 v9 : Nat) :
    Go.Vg.Spec Tryz.prog 54 [.optr 6 v6 0 0, tkA t] (doM a0 a1 a2 a3 a4 a5 r f v6 v7 v8 v9 s.ts.length s.pp.length s.pl.length s a) (fun x m' => x = .tup [] ∧ m' = doM a0 a1 a2 a3 a4 a5 r f v6 v7 v8 v9 s.ts.length s.pp.length s.pl.length (doS r f s a t) (doA r a t)) := by
  obtain ⟨kd, nu, ar⟩ := t
  unfold canB at hc
  simp only at hc
  unfold doS doA tkA
  simp only
  have hps := hv.ps
  split at hc
  · rename_i hk
    subst hk
    simp only [show ¬((1 : Int) = 2) by omega, show ¬((1 : Int) = 3) by omega, if_false, if_true]
    unfold wkB wi at hc
    simp only [Bool.and_eq_true, Bool.or_eq_true, decide_eq_true_eq] at hc
    obtain ⟨⟨_, q1, q2⟩, q3⟩ := hc
    obtain ⟨n, rfl⟩ : ∃ n : Nat, nu = n := ⟨nu.toNat, by omega⟩
    simp only [Int.toNat_natCast] at *
    have hn : n < r.wy.length := by omega
    have hm := hv.wyv (r.wy.getD n wy0) (by rw [show r.wy.getD n wy0 = r.wy[n] by simp [hn]]; exact List.getElem_mem _)
    exact do_walk r f s a n ar hn ⟨by omega, by omega, ha⟩ h0 h1 h2 h3 h4 h5 v6 v7 v8 v9 _ _ _
  · rename_i hk1
    split at hc
    · rename_i hk
      subst hk
      simp only [show ¬((2 : Int) = 1) by omega, if_false, if_true]
      unfold tnB wi at hc
      simp only [Bool.and_eq_true, decide_eq_true_eq] at hc
      obtain ⟨⟨q1, q2⟩, _⟩ := hc
      obtain ⟨n, rfl⟩ : ∃ n : Nat, nu = n := ⟨nu.toNat, by omega⟩
      simp only [Int.toNat_natCast]
      exact do_turn r f s a n ar (by have := hs.ts; omega) h0 h1 h2 h3 h4 h5 v6 v7 v8 v9 _ _
    · rename_i hk2
      split at hc
      · rename_i hk
        subst hk
        simp only [show ¬((3 : Int) = 1) by omega, show ¬((3 : Int) = 2) by omega, if_false, if_true]
        unfold ptB wi at hc
        simp only [Bool.and_eq_true, decide_eq_true_eq] at hc
        obtain ⟨⟨⟨_, q1, q2⟩, _⟩, _⟩ := hc
        obtain ⟨n, rfl⟩ : ∃ n : Nat, nu = n := ⟨nu.toNat, by omega⟩
        simp only [Int.toNat_natCast]
        exact do_put r f s a n ar (by have := hs.pp; omega) (by have := hf.pp; omega) h0 h1 h2 h3 h4 h5 v6 v7 v8 v9 _ _
      · cases hc

/-! what Least answers -/
def ovB (f : St) (pl : List Int) (x : Sd) : Bool := decide (x.at_ = 0) && rsB f (sdS pl x)
def enN (f : St) (pl : List Int) (S : SL Sd) (n : Nat) : Option Nat := (List.range n).find? fun j => ovB f pl (sc S j)
def enV (f : St) (pl : List Int) (S : SL Sd) (n : Nat) : Int := match enN f pl S n with
  | some j => j
  | none => -1
def pth (S : SL Sd) : Nat → Nat → List Nat
  | 0, _ => []
  | n + 1, i => if i = 0 then [] else st' S i :: pth S n (sb S i)
def lsB (r : Rm) (s : St) : Sd := ⟨s.ts, s.pp, 0⟩
def lsR (r : Rm) (s : St) : Option (SL Sd) := srun (tkL r).length (nxR r (bgS r) s.pl) 4000 4001 0 [(lsB r s, 0, 0)]
def leT (r : Rm) (s : St) : Int × List Tk := match lsR r s with
  | none => (2, [])
  | some S => match enN (bgS r) s.pl S S.length with
    | none => (90, [])
    | some e => (0, ((pth S e e).map fun k => (tkL r).getD k tk0).reverse)
theorem enN_succ (f : St) (pl : List Int) (S : SL Sd) (n : Nat) : enN f pl S (n + 1) = match enN f pl S n with
    | some j => some j
    | none => if ovB f pl (sc S n) = true then some n else none := by
  unfold enN
  rw [List.range_succ, List.find?_append]
  cases (List.range n).find? fun j => ovB f pl (sc S j) with
  | some j => rfl
  | none =>
    simp only [Option.none_or, List.find?_cons, List.find?_nil]
    cases ovB f pl (sc S n) <;> rfl
theorem enN_old {f : St} {pl : List Int} {S S' : SL Sd} {n : Nat} (h : ∀ j, j < n → sc S' j = sc S j) : enN f pl S' n = enN f pl S n := by
  induction n with
  | zero => rfl
  | succ n ih => rw [enN_succ, enN_succ, ih fun j hj => h j (by omega), h n (by omega)]
theorem enN_lt {f : St} {pl : List Int} {S : SL Sd} {n j : Nat} (h : enN f pl S n = some j) : j < n ∧ ovB f pl (sc S j) = true := by
  unfold enN at h
  exact ⟨List.mem_range.1 (List.mem_of_find?_eq_some h), by simpa using List.find?_some h⟩
theorem sstep_old {R : Sd → Nat → Sd} {M : Nat} {S S' : SL Sd} {i k : Nat} (h : sstep R M S i k = some S') : ∀ j, j < S.length → S'.getD j (default, 0, 0) = S.getD j (default, 0, 0) := by
  intro j hj
  unfold sstep at h
  split at h
  · cases h; rfl
  · split at h
    · cases h
    · cases h; exact sc_old hj
theorem srow_old {R : Sd → Nat → Sd} {M : Nat} {S : SL Sd} {i : Nat} : ∀ (k : Nat) {S' : SL Sd}, srow R M S i k = some S' → ∀ j, j < S.length → S'.getD j (default, 0, 0) = S.getD j (default, 0, 0)
  | 0, S', h, j, hj => by cases h; rfl
  | k + 1, S', h, j, hj => by
    unfold srow at h
    obtain ⟨S1, q1, q2⟩ := Option.bind_eq_some_iff.1 h
    rw [sstep_old q2 j (by have := (srow_len R k q1).1; omega), srow_old k q1 j hj]
theorem srow_none {R : Sd → Nat → Sd} {M : Nat} {S : SL Sd} {i : Nat} {k : Nat} (h : srow R M S i k = none) : ∀ n, srow R M S i (k + n) = none
  | 0 => h
  | n + 1 => by
    show (srow R M S i (k + n)).bind _ = none
    rw [srow_none h n]; rfl
end Go.Proofs.Tryz
set_option maxHeartbeats 64000000
namespace Go.Proofs.Tryz
open Go.Vg

theorem enV_succ (f : St) (pl : List Int) (S : SL Sd) (i : Nat) : enV f pl S (i + 1) = if (decide (enV f pl S i < 0) && decide ((sc S i).at_ = 0) && rsB f (sdS pl (sc S i))) = true then (i : Int) else enV f pl S i := by
  unfold enV
  rw [enN_succ]
  cases h : enN f pl S i with
  | some j =>
    have e : decide ((j : Int) < 0) = false := decide_eq_false (by omega)
    simp [e]
  | none =>
    simp only [show decide ((-1 : Int) < 0) = true from rfl, Bool.true_and]
    unfold ovB
    cases hb : (decide ((sc S i).at_ = 0) && rsB f (sdS pl (sc S i))) <;> simp
structure G5 where
  v5 : Nat
  v6 : Nat
  v7 : Nat
  v8 : Nat
  v9 : Nat
  k5 : Kind
  k6 : Kind
  k7 : Kind
  k8 : Kind
  k9 : Kind
abbrev kX (r : Rm) (f : St) (pl : List Int) (x : Sd) : List AV := [.strs r.ps, .lst 4 (r.ts.map thA), .lst 3 (r.pp.map ppA), .lst 3 (r.wy.map wyA), .lst 8 (r.ac.map acA), .lst 3 (r.au.map auA), .int r.n, .lst 3 (r.goal.map ltA), .ints f.ts, .ints f.pp, .ints f.pl, .ints x.ts, .ints x.pp, .ints pl, .int x.at_]
abbrev lsM (r : Rm) (f : St) (pl : List Int) (S : SL Sd) (e4 : Ent) (g : G5) : Mem := [⟨1, .row 8 []⟩, ⟨1, .row 3 []⟩, ⟨S.length, .row 19 (stdL r f pl S)⟩, ⟨1, .mp (mpK sdK S)⟩, e4, ⟨g.v5, g.k5⟩, ⟨g.v6, g.k6⟩, ⟨g.v7, g.k7⟩, ⟨g.v8, g.k8⟩, ⟨g.v9, g.k9⟩]
theorem okL_kX (k : Nat) (r : Rm) (f : St) (pl : List Int) (x : Sd) : okL k [AV.agg (kX r f pl x)] := by simp [okL, AV.ok, okL_str, okL_th, okL_pp, okL_wy, okL_ac, okL_au, okL_lt, okL_mapInt]
theorem srow_succ (R : Sd → Nat → Sd) (M : Nat) (S : SL Sd) (i k : Nat) {S' : SL Sd} (h : srow R M S i k = some S') : srow R M S i (k + 1) = sstep R M S' i k := by
  show (srow R M S i k).bind _ = _
  rw [h]; rfl
theorem mpK_ok (S : SL Sd) (k : Nat) : okL k ((mpK sdK S).map (·.2)) := by
  unfold mpK
  generalize List.range S.length = L
  induction L with
  | nil => trivial
  | cons a l ih => exact ⟨trivial, ih⟩
theorem least_ok {r : Rm} (hz : Sz r) {s : St} (hs : Zs s) (h : begE r s = 0) : Pure Tryz.prog 16 [rmA r, stA s] (.tup [.lst 3 ((leT r s).2.map tkA), .int (leT r s).1]) := by
  obtain ⟨hb0, hb1⟩ := begE_zero h
  obtain ⟨hv, hs2, hch⟩ := cs_zero hb1
  have hf := bg_SV hb0
  have c0 := begin_pure hz hs h
  have c1 := tasks_pure hv
  have hx0 : SdOk r s.pl (lsB r s) := ⟨hs2, Int.le_refl _, by have := hv.ps; simp only [lsB]; omega⟩
  have hkp : ∀ x : Sd, SdOk r s.pl x → Pure Tryz.prog 48 [.agg (kX r (bgS r) s.pl x)] (.str (sdK x)) := fun x hx => by
    obtain ⟨q1, q2⟩ := sd_inR hv hx
    have z := SV.zs hz hv hx.1
    exact key_pure r (bgS r) ⟨x.ts, x.pp, s.pl⟩ x.at_ q1 ⟨z.ts, z.pp⟩ q2
  have hrs : ∀ x : Sd, SdOk r s.pl x → Pure Tryz.prog 51 [.ref (kX r (bgS r) s.pl x) 0] (.bool (rsB (bgS r) (sdS s.pl x))) := fun x hx => reset_pure r (bgS r) ⟨x.ts, x.pp, s.pl⟩ (SV.zs hz hv hx.1) x.at_
  have hcn : ∀ x : Sd, SdOk r s.pl x → ∀ t, Pure Tryz.prog 52 [.ref (kX r (bgS r) s.pl x) 0, tkA t] (.bool (canB r (bgS r) (sdS s.pl x) x.at_ t)) := fun x hx t => can_pure hz (bgS r) (s := ⟨x.ts, x.pp, s.pl⟩) (SV.zs hz hv hx.1) (by unfold csE; rw [orE_ok hch, if_pos (show csB r ⟨x.ts, x.pp, s.pl⟩ = true from csB_SV.2 hx.1)]) hf.pp (SV.zs hz hv hf).ts x.at_ t
  have hcp : ∀ x : Sd, SdOk r s.pl x → _ := fun x hx => copied_spec ⟨x.ts, x.pp, s.pl⟩ (SV.zs hz hv hx.1)
  have hk0 := hkp _ hx0
  have htl : (tkL r).length ≤ 200 := by
    have := tkT_len r.ts (fun x hx => (hv.tsv x hx).2.1.2) r.ts.length (Nat.le_refl _)
    have := hv.wy; have := hv.ts; have := hv.pp
    unfold tkL
    simp only [List.length_append, tkW_len, tkP_len]
    omega
  refine Spec.frz ?_
  obtain ⟨tot, htot⟩ : ∃ tot, lsR r s = tot := ⟨_, rfl⟩
  unfold leT
  rw [htot]
  unfold lsR at htot
  have hsq : ∀ S' : SL Sd, tot = some S' → ∀ k, 0 < k → k < S'.length → sb S' k < k := fun S' e k q1 q2 => by
    subst e
    obtain ⟨Q', z1, z2⟩ := srun_is (nxR r (bgS r) s.pl) 4001 0 _ S' _ (SQ.start (lsB r s)) (BI.start (T := (tkL r).length) (R := nxR r (bgS r) s.pl) (lsB r s)) (by simp) htot
    exact (z1.b k q1 q2).1
  have hS0 : stdL r (bgS r) s.pl [(lsB r s, 0, 0)] = [elA r (bgS r) s.pl 0 (lsB r s, 0, 0)] := rfl
  have hM0 : mpK sdK [(lsB r s, 0, 0)] = [(.string (sdK (lsB r s)), .int 0)] := rfl
  have hA0 : allOk r s.pl [(lsB r s, 0, 0)] := fun j hj => by
    have : j = 0 := by simpa using hj
    subst this; exact hx0
  have hkB : Maps.Keyed Tryz.prog 9 = True := eq_true keyedStr
  have hek := fun x : Sd => eqKey_str (sdK x) (sdK x)
  have hgk : ∀ x : Sd, SdOk r s.pl x → goodK Tryz.prog 9 (.string (sdK x)) = true := fun x hx => goodStr (sdK_size hv hx)
  have hgl : ∀ S : SL Sd, allOk r s.pl S → goodL Tryz.prog 9 (mpK sdK S) = true := fun S h => goodL_mpK hv h
  have hgk0 := goodStr (sdK_size hv hx0)
  generalize hfE : bgS r = f at *
  unfold rmA rmC at *
  try unfold stA at *
  (refine Spec.of_bodyA Tryz.func16 rfl (by rw [Tryz.ntmps16]; simp) ?_; rw [Tryz.results16, Tryz.ntmps16]; simp only [entry, zipArgs, Nat.reduceAdd])
  ((refine x_pre @okL_tk ?_); (iterate 4 (refine x_nr @okL_tk ?_)); (refine x_nil @okL_tk ?_))
  (refine x_fzP @okL_tk (slq 2) ?_)
  (refine x_fzP @okL_tk (slq 3) ?_)
  (refine Wp.vacs 8 ?_; (try simp only [List.replicate_succ, List.replicate_zero, List.cons_append, List.nil_append]))
  (refine x_go @okL_tk ?_)
  (apply Run.pureFP; (exact x_ev @okL_tk); (exact (Enters.of Tryz.func46 rfl rfl)); (exact c0); (exact x_al @okL_tk); (try dsimp only [putA, optG]))
  (refine x_gg @okL_tk ?_)
  (apply Run.pureFP; (exact x_ev @okL_tk); (exact (Enters.of Tryz.func47 rfl rfl)); (exact c1); (exact x_al @okL_tk); (try dsimp only [putA, optG]))
  (refine x_nr @okL_tk ?_)
  (apply Run.nil; dsimp only [sQ, tQ, bQ])
  ((refine x_pre @okL_tk ?_); (iterate 1 (refine x_nr @okL_tk ?_)); (refine x_nil @okL_tk ?_))
  (repeat (first | apply Wp.seq | apply Wp.block | (apply Wp.skip; dsimp only [sQ, tQ, bQ])))
  (refine x_beg @okL_tk ?_)
  (iterate 5 (refine x_nr @okL_tk ?_))
  (apply Run.alcAt 2; (exact x_ev @okL_tk); ((try simp only [push_cast, seval, okL_tk]) <;> exact sT); exact rfl; (try simp only [push_cast, seval, okL_tk]))
  (repeat (refine x_nr @okL_tk ?_))
  (apply Run.nil; dsimp only [sQ, tQ, bQ])
  (repeat (first | apply Wp.seq | apply Wp.block | (apply Wp.skip; dsimp only [sQ, tQ, bQ])))
  (refine x_beg @okL_tk ?_)
  (apply Run.mapAt (3); (first | ((exact x_ev @okL_tk)) | exact rfl); (try simp only [push_cast, seval, okL_tk]))
  (repeat (refine x_nr @okL_tk ?_))
  (apply Run.pureFP; (exact x_ev @okL_tk); (exact (Enters.of Tryz.func48 rfl rfl)); (exact hk0); (exact x_al @okL_tk); (try dsimp only [putA, optG]))
  (refine x_go (zc @okL_tk (zc @hkB (zc @hgk0 @hek))) ?_)
  generalize hTk : (tkL r).map tkA = TA at *
  generalize s.pl = pl at *
  refine Wp.loop (fun (q : Nat × SL Sd × (Nat × Kind) × G5) => { t := [(8, .lst 3 TA), (9, .clo 48 []), (10, .osl 2 q.2.1.length 0 q.2.1.length), (11, .omap 3 1), (12, .int (enV f pl q.2.1 q.1)), (13, .int q.1)], m := lsM r f pl q.2.1 ⟨q.2.2.1.1, q.2.2.1.2⟩ q.2.2.2, n := 131 })
    (fun q => q.1 ≤ q.2.1.length ∧ q.2.1.length ≤ 4000 ∧ allOk r pl q.2.1 ∧ 0 < q.2.1.length ∧ srun (tkL r).length (nxR r f pl) 4000 (4001 - q.1) q.1 q.2.1 = tot) (fun q => 4001 - q.1) (0, [(lsB r s, 0, 0)], (0, .row 1 []), ⟨0, 0, 0, 0, 0, .row 1 [], .row 1 [], .row 1 [], .row 1 [], .row 1 []⟩) ?_ ?_ ?_
  · simp only [hS0, hM0]
    (refine Le.of ?_ ?_ rfl rfl <;> (try simp only [push_cast, seval, okL_tk, hkB, hgk0, hek]) <;> (try (with_reducible rfl)))
    all_goals rfl
  · exact ⟨by simp, by simp, hA0, by simp, htot⟩
  · clear hS0 hM0 hgk0 hA0 hk0 c0 c1 htot
    rintro ⟨i, S, ⟨v4, k4⟩, g⟩ ⟨hi1, hi2, hi3, hi4, hi5⟩
    simp only at hi1 hi2 hi3 hi4 hi5
    (refine x_go (zc @okL_tk (zc @hkB @hek)) ?_)
    (apply Wp.cond; (exact x_ev (zc @okL_tk (zc @hkB @hek))))
    · (intro hc; first | replace hc := bT hc | skip)
      have hrun : (srow (nxR r f pl) 4000 S i (tkL r).length).bind (srun (tkL r).length (nxR r f pl) 4000 (4001 - (i + 1)) (i + 1)) = tot := by
        rw [← hi5, show 4001 - i = (4001 - (i + 1)) + 1 by omega]
        show _ = if i < S.length then _ else _
        rw [if_pos hc]
      have hev := enV_succ f pl S i
      have hx := hi3 i hc
      have hgd := fun d => stdL_getD (r := r) (f := f) (pl := pl) (S := S) d hc
      have hscp : sc S i = (S.getD i (default, 0, 0)).1 := rfl
      rw [hscp] at hx hev
      generalize hp : S.getD i (default, 0, 0) = p at hx hgd hev hscp
      have c3 := hrs p.1 hx
      generalize hrb : rsB f (sdS pl p.1) = rb at c3 hev
      have hlen := stdL_len r f pl S
      (refine x_gs (zc @okL_tk (zc @hkB (zc @hek (zc @hgd (zc @elA.eq_1 (zc @elC.eq_1 @hlen)))))) ?_)
      (apply Run.alcAt 4; (exact x_ev (zc @okL_tk (zc @hkB (zc @hek (zc @hgd (zc @elA.eq_1 (zc @elC.eq_1 @hlen))))))); ((try simp only [push_cast, seval, okL_tk, hkB, hek, hgd, elA, elC, hlen]) <;> exact sT); exact rfl; (try simp only [push_cast, seval, okL_tk, hkB, hek, hgd, elA, elC, hlen]))
      (refine x_go (zc @okL_tk (zc @hkB (zc @hek (zc @hgd (zc @elA.eq_1 (zc @elC.eq_1 @hlen)))))) ?_)
      (apply Run.pureP; (exact x_ev (zc @okL_tk (zc @hkB (zc @hek (zc @hgd (zc @elA.eq_1 (zc @elC.eq_1 @hlen))))))); (exact (Enters.of Tryz.func51 rfl rfl)); (exact c3); (exact x_al (zc @okL_tk (zc @hkB (zc @hek (zc @hgd (zc @elA.eq_1 (zc @elC.eq_1 @hlen))))))); (try dsimp only [putA, optG]))
      (refine x_go (zc @okL_tk (zc @hkB (zc @hek (zc @hgd (zc @elA.eq_1 (zc @elC.eq_1 @hlen)))))) ?_)
      refine Wp.meetS { t := [(8, .lst 3 TA), (9, .clo 48 []), (10, .osl 2 S.length 0 S.length), (11, .omap 3 1), (12, .int (enV f pl S (i + 1))), (13, .int i), (14, .optr 4 (v4 + 1) 0 0)], m := lsM r f pl S ⟨v4 + 1, .row 15 [.agg (kX r f pl p.1)]⟩ g, n := 131 } ?_ ?_
      · (apply Wp.cond; (exact x_ev (zc @okL_tk (zc @hkB (zc @hek (zc @hgd (zc @elA.eq_1 (zc @elC.eq_1 @hlen))))))))
        · intro h4
          rw [if_pos (by simpa using h4)] at hev
          (refine x_go (zc @okL_tk (zc @hkB (zc @hek (zc @hgd (zc @elA.eq_1 (zc @elC.eq_1 @hlen)))))) ?_)
          rw [hev]
          (refine Le.of ?_ ?_ rfl rfl <;> (try simp only [push_cast, seval, okL_tk, hkB, hek, hgd, elA, elC, hlen]) <;> (try (with_reducible rfl)))
        · intro h4
          rw [if_neg (by simpa using h4)] at hev
          (refine x_go (zc @okL_tk (zc @hkB (zc @hek (zc @hgd (zc @elA.eq_1 (zc @elC.eq_1 @hlen)))))) ?_)
          rw [hev]
          (refine Le.of ?_ ?_ rfl rfl <;> (try simp only [push_cast, seval, okL_tk, hkB, hek, hgd, elA, elC, hlen]) <;> (try (with_reducible rfl)))
      · (try dsimp only [sQ, tQ, bQ])
        intro s' hs'
        refine Wp.le hs' ?_
        clear hs' hev c3
        (refine x_go (zc @okL_tk (zc @hkB @hek)) ?_)
        have hTAl : TA.length = (tkL r).length := by rw [← hTk, List.length_map]
        have hpl2 : p.1.ts.length = r.ts.length ∧ p.1.pp.length = r.pp.length := ⟨hx.1.ts, hx.1.pp⟩
        refine Wp.loop (fun (q : Nat × SL Sd × G5) => { t := [(8, .lst 3 TA), (9, .clo 48 []), (10, .osl 2 q.2.1.length 0 q.2.1.length), (11, .omap 3 1), (12, .int (enV f pl S (i + 1))), (13, .int i), (14, .optr 4 (v4 + 1) 0 0), (68, .lst 3 TA), (69, .int (tkL r).length), (70, .int q.1)], m := lsM r f pl q.2.1 ⟨v4 + 1, .row 15 [.agg (kX r f pl p.1)]⟩ q.2.2, n := 131 })
          (fun q => q.1 ≤ (tkL r).length ∧ srow (nxR r f pl) 4000 S i q.1 = some q.2.1 ∧ q.2.1.length ≤ 4000 ∧ allOk r pl q.2.1) (fun q => (tkL r).length - q.1) (0, S, g) ?_ ?_ ?_
        · rw [← hTAl]
          (refine Le.of ?_ ?_ rfl rfl <;> (try simp only [push_cast, seval, okL_tk, hkB, hek]) <;> (try (with_reducible rfl)))
        · exact ⟨by simp, rfl, hi2, hi3⟩
        · rintro ⟨k, S', ⟨v5, v6, v7, v8, v9, k5, k6, k7, k8, k9⟩⟩ ⟨hk1, hk2, hk3, hk4⟩
          simp only at hk1 hk2 hk3 hk4
          (refine x_go (zc @okL_tk (zc @hkB @hek)) ?_)
          (apply Wp.cond; (exact x_ev (zc @okL_tk (zc @hkB @hek))))
          · intro hk5
            have hk5 : k < (tkL r).length := by simpa using hk5
            have hlen2 := stdL_len r f pl S'
            have hold := srow_old k hk2
            have hle := (srow_len _ k hk2).1
            have hsi : sc S' i = p.1 := by unfold sc; rw [hold i hc, hp]
            have hst := srow_succ (nxR r f pl) 4000 S i k hk2
            have htg : ∀ d, TA.getD k d = tkA ((tkL r).getD k tk0) := fun d => by rw [← hTk]; exact getD_tk d hk5
            have hnx : nxR r f pl p.1 k = if canB r f (sdS pl p.1) p.1.at_ ((tkL r).getD k tk0) = true then nxT r f pl p.1 ((tkL r).getD k tk0) else p.1 := rfl
            obtain ⟨t, ht⟩ : ∃ t, (tkL r).getD k tk0 = t := ⟨_, rfl⟩
            rw [ht] at hnx
            simp only [ht] at htg
            have c4 := hcn p.1 hx t
            unfold sstep at hst
            rw [hsi] at hst
            unfold tkA at c4
            cases hcb : canB r f (sdS pl p.1) p.1.at_ t with
            | false =>
              rw [hcb] at c4 hnx
              rw [if_neg (by simp)] at hnx
              rw [hnx, if_pos (sk_iff.2 ⟨i, by omega, hsi⟩)] at hst
              (refine x_gs (zc @okL_tk (zc @hkB (zc @hek (zc @htg (zc @tkA.eq_1 @hTAl))))) ?_)
              (apply Run.alcAt 5; (exact x_ev (zc @okL_tk (zc @hkB (zc @hek (zc @htg (zc @tkA.eq_1 @hTAl)))))); ((try simp only [push_cast, seval, okL_tk, hkB, hek, htg, tkA, hTAl]) <;> exact sT); exact rfl; (try simp only [push_cast, seval, okL_tk, hkB, hek, htg, tkA, hTAl]))
              (refine x_go (zc @okL_tk (zc @hkB (zc @hek (zc @htg (zc @tkA.eq_1 @hTAl))))) ?_)
              (apply Run.pureP; (exact x_ev (zc @okL_tk (zc @hkB (zc @hek (zc @htg (zc @tkA.eq_1 @hTAl)))))); (exact (Enters.of Tryz.func52 rfl rfl)); (exact c4); (exact x_al (zc @okL_tk (zc @hkB (zc @hek (zc @htg (zc @tkA.eq_1 @hTAl)))))); (try dsimp only [putA, optG]))
              (refine x_gg (zc @okL_tk (zc @hkB (zc @hek (zc @htg (zc @tkA.eq_1 @hTAl))))) ?_)
              refine ⟨(k + 1, S', ⟨v5 + 1, v6, v7, v8, v9, .row 3 [tkA t], k6, k7, k8, k9⟩), ?_, ⟨by simp only; omega, hst, hk3, hk4⟩, by simp only; omega⟩
              (refine Le.of ?_ ?_ rfl rfl <;> (try simp only [push_cast, seval, okL_tk, hkB, hek, htg, tkA, hTAl]) <;> (try (with_reducible rfl)))
            | true =>
              rw [hcb] at c4 hnx
              rw [if_pos rfl] at hnx
              rw [hnx] at hst
              have hy := nx_ok hv hf hx hcb
              have c5 := hcp p.1 hx
              have c6 := do_spec hv hf (s := sdS pl p.1) hx.1 (a := p.1.at_) ⟨hx.2.1, by have := hx.2.2; have := hv.ps; omega⟩ hcb (a0 := ⟨1, .row 8 []⟩) (a1 := ⟨1, .row 3 []⟩) (a2 := ⟨S'.length, .row 19 (stdL r f pl S')⟩) (a3 := ⟨1, .mp (mpK sdK S')⟩) (a4 := ⟨v4 + 1, .row 15 [.agg (kX r f pl p.1)]⟩) (a5 := ⟨v5 + 1, .row 3 [tkA t]⟩) trivial trivial (by show okL 10 _; rw [okL_std]; trivial) (mpK_ok S' 10) (okL_kX 10 r f pl p.1) (by simp [Kind.ok, okL, AV.ok, tkA]) (v6 + 1) (v7 + 1) (v8 + 1) (v9 + 1)
              rw [← nx_sdS, show doA r p.1.at_ t = (nxT r f pl p.1 t).at_ from rfl] at c6
              generalize nxT r f pl p.1 t = y at *
              have hyl : y.ts.length = p.1.ts.length ∧ y.pp.length = p.1.pp.length := ⟨hy.1.ts.trans hx.1.ts.symm, hy.1.pp.trans hx.1.pp.symm⟩
              unfold sdS at c6
              unfold stA at c5
              simp only at c5 c6
              unfold tkA at c6
              have c7 := hkp y hy
              have hfd := findL_mpK (K := sdK) (S := S') (c := y) fun j hj e => sd_inj hv (hk4 j hj) hy e
              (refine x_gs (zc @okL_tk (zc @hkB (zc @hek (zc @htg (zc @tkA.eq_1 (zc @hTAl @Bool.not_true)))))) ?_)
              (apply Run.alcAt 5; (exact x_ev (zc @okL_tk (zc @hkB (zc @hek (zc @htg (zc @tkA.eq_1 (zc @hTAl @Bool.not_true))))))); ((try simp only [push_cast, seval, okL_tk, hkB, hek, htg, tkA, hTAl, Bool.not_true]) <;> exact sT); exact rfl; (try simp only [push_cast, seval, okL_tk, hkB, hek, htg, tkA, hTAl, Bool.not_true]))
              (refine x_go (zc @okL_tk (zc @hkB (zc @hek (zc @htg (zc @tkA.eq_1 (zc @hTAl @Bool.not_true)))))) ?_)
              (apply Run.pureP; (exact x_ev (zc @okL_tk (zc @hkB (zc @hek (zc @htg (zc @tkA.eq_1 (zc @hTAl @Bool.not_true))))))); (exact (Enters.of Tryz.func52 rfl rfl)); (exact c4); (exact x_al (zc @okL_tk (zc @hkB (zc @hek (zc @htg (zc @tkA.eq_1 (zc @hTAl @Bool.not_true))))))); (try dsimp only [putA, optG]))
              (refine x_gq (zc @okL_tk (zc @hkB (zc @hek (zc @htg (zc @tkA.eq_1 (zc @hTAl @Bool.not_true)))))) ?_)
              (apply Run.alcAt 6; (exact x_ev (zc @okL_tk (zc @hkB (zc @hek (zc @htg (zc @tkA.eq_1 (zc @hTAl @Bool.not_true))))))); ((try simp only [push_cast, seval, okL_tk, hkB, hek, htg, tkA, hTAl, Bool.not_true]) <;> exact sT); exact rfl; (try simp only [push_cast, seval, okL_tk, hkB, hek, htg, tkA, hTAl, Bool.not_true]))
              (refine x_go (zc @okL_tk (zc @hkB (zc @hek (zc @htg (zc @tkA.eq_1 (zc @hTAl @Bool.not_true)))))) ?_)
              (apply Run.fresh3At 7 8 9; (exact x_ev (zc @okL_tk (zc @hkB (zc @hek (zc @htg (zc @tkA.eq_1 (zc @hTAl @Bool.not_true))))))); (exact (Enters.of Tryz.func53 rfl rfl)); (exact c5); (exact VwL.cons (x := .agg [.ints p.1.ts, .ints p.1.pp, .ints pl]) (Vw.self (by simp [AV.ok, okL, okL_mapInt])) VwL.nil); (refine ⟨?_, ?_, ?_⟩ <;> (simp only [push_cast, seval, okL_tk, hkB, hek, htg, tkA, hTAl, Bool.not_true] <;> first | trivial | (simp; done))); (exact ⟨rfl, rfl, rfl⟩); (exact ⟨by decide, by decide, by decide⟩); (try dsimp only [putA, set3, List.set_cons_succ, List.set_cons_zero, List.set]))
              (refine x_go (zc @okL_tk (zc @hkB (zc @hek (zc @htg (zc @tkA.eq_1 (zc @hTAl @Bool.not_true)))))) ?_)
              (apply Run.spec (he := (Enters.of Tryz.func54 rfl rfl)); exact rfl; (simp only [push_cast, seval, okL_tk, hkB, hek, htg, tkA, hTAl, Bool.not_true] <;> first | exact rfl | assumption); (exact x_ev (zc @okL_tk (zc @hkB (zc @hek (zc @htg (zc @tkA.eq_1 (zc @hTAl @Bool.not_true))))))); (exact c6); (rintro _ _ ⟨rfl, rfl⟩; dsimp only [Go.Vg.S.put, optG]))
              (repeat (refine x_nr (zc @okL_tk (zc @hkB (zc @hek (zc @htg (zc @tkA.eq_1 (zc @hTAl @Bool.not_true)))))) ?_))
              (apply Run.nil; dsimp only [sQ, tQ, bQ])
              refine Wp.freezeRow 6 7 (vi := v7 + 1) (off := 0) (len := p.1.ts.length) (szi := 1) (li := y.ts.map AV.int) (le' := [.agg (kO r f (.ints y.ts) (.osl 8 (v8 + 1) 0 p.1.pp.length) (.osl 9 (v9 + 1) 0 pl.length) (.int y.at_))]) (by decide) rfl rfl (by simp [hyl.1]) (by decide) ⟨.inr ⟨_, _, rfl, rfl, .inl rfl, .inl rfl, .inl rfl, .inl rfl, .inl rfl, .inl rfl, .inl rfl, .inl rfl, .inl rfl, .inl rfl, .inl rfl, .inr ⟨rfl, by simp [← hyl.1, List.take_of_length_le]⟩, .inl rfl, .inl rfl, .inl rfl, trivial⟩, trivial⟩ ?_
              try simp only [List.set_cons_succ, List.set_cons_zero]
              refine Wp.freezeRow 6 8 (vi := v8 + 1) (off := 0) (len := p.1.pp.length) (szi := 1) (li := y.pp.map AV.int) (le' := [.agg (kO r f (.ints y.ts) (.ints y.pp) (.osl 9 (v9 + 1) 0 pl.length) (.int y.at_))]) (by decide) rfl rfl (by simp [hyl.2]) (by decide) ⟨.inr ⟨_, _, rfl, rfl, .inl rfl, .inl rfl, .inl rfl, .inl rfl, .inl rfl, .inl rfl, .inl rfl, .inl rfl, .inl rfl, .inl rfl, .inl rfl, .inl rfl, .inr ⟨rfl, by simp [← hyl.2, List.take_of_length_le]⟩, .inl rfl, .inl rfl, trivial⟩, trivial⟩ ?_
              try simp only [List.set_cons_succ, List.set_cons_zero]
              refine Wp.freezeRow 6 9 (vi := v9 + 1) (off := 0) (len := pl.length) (szi := 1) (li := pl.map AV.int) (le' := [.agg (kX r f pl y)]) (by decide) rfl rfl (by simp) (by decide) ⟨.inr ⟨_, _, rfl, rfl, .inl rfl, .inl rfl, .inl rfl, .inl rfl, .inl rfl, .inl rfl, .inl rfl, .inl rfl, .inl rfl, .inl rfl, .inl rfl, .inl rfl, .inl rfl, .inr ⟨rfl, by simp [List.take_of_length_le]⟩, .inl rfl, trivial⟩, trivial⟩ ?_
              try simp only [List.set_cons_succ, List.set_cons_zero]
              cases hsk : sk S' y with
              | true =>
                rw [if_pos hsk] at hst
                rw [hsk, if_pos rfl] at hfd
                (refine x_go (zc @okL_tk (zc @hkB (zc @hek (zc @htg (zc @tkA.eq_1 (zc @hTAl (zc @Bool.not_true (zc @hfd (zc (hgk y hy) (hgl S' hk4)))))))))) ?_)
                (apply Run.pureFP; (exact x_ev (zc @okL_tk (zc @hkB (zc @hek (zc @htg (zc @tkA.eq_1 (zc @hTAl (zc @Bool.not_true (zc @hfd (zc (hgk y hy) (hgl S' hk4))))))))))); (exact (Enters.of Tryz.func48 rfl rfl)); (exact c7); (exact x_al (zc @okL_tk (zc @hkB (zc @hek (zc @htg (zc @tkA.eq_1 (zc @hTAl (zc @Bool.not_true (zc @hfd (zc (hgk y hy) (hgl S' hk4))))))))))); (try dsimp only [putA, optG]))
                (refine x_gg (zc @okL_tk (zc @hkB (zc @hek (zc @htg (zc @tkA.eq_1 (zc @hTAl (zc @Bool.not_true (zc @hfd (zc (hgk y hy) (hgl S' hk4)))))))))) ?_)
                refine ⟨(k + 1, S', ⟨v5 + 1, v6 + 1, v7 + 1 + 1, v8 + 1 + 1, v9 + 1 + 1, .row 3 [tkA t], .row 15 [.agg (kX r f pl y)], .row 1 [], .row 1 [], .row 1 []⟩), ?_, ⟨by simp only; omega, hst, hk3, hk4⟩, by simp only; omega⟩
                (refine Le.of ?_ ?_ rfl rfl <;> (try simp only [push_cast, seval, okL_tk, hkB, hek, htg, tkA, hTAl, Bool.not_true, hfd, hgk y hy, hgl S' hk4]) <;> (try (with_reducible rfl)))
              | false =>
                rw [if_neg (by rw [hsk]; simp)] at hst
                rw [hsk, if_neg (by simp)] at hfd
                by_cases hbig : S'.length = 4000
                · rw [if_pos hbig] at hst
                  have e9 : decide ((S'.length : Int) = 4000) = true := decide_eq_true (by omega)
                  (refine x_go (zc @okL_tk (zc @hkB (zc @hek (zc @htg (zc @tkA.eq_1 (zc @hTAl (zc @Bool.not_true (zc @hfd (zc (hgk y hy) (zc (hgl S' hk4) @e9)))))))))) ?_)
                  (apply Run.pureFP; (exact x_ev (zc @okL_tk (zc @hkB (zc @hek (zc @htg (zc @tkA.eq_1 (zc @hTAl (zc @Bool.not_true (zc @hfd (zc (hgk y hy) (zc (hgl S' hk4) @e9))))))))))); (exact (Enters.of Tryz.func48 rfl rfl)); (exact c7); (exact x_al (zc @okL_tk (zc @hkB (zc @hek (zc @htg (zc @tkA.eq_1 (zc @hTAl (zc @Bool.not_true (zc @hfd (zc (hgk y hy) (zc (hgl S' hk4) @e9))))))))))); (try dsimp only [putA, optG]))
                  (refine x_gg (zc @okL_tk (zc @hkB (zc @hek (zc @htg (zc @tkA.eq_1 (zc @hTAl (zc @Bool.not_true (zc @hfd (zc (hgk y hy) (zc (hgl S' hk4) @e9)))))))))) ?_)
                  (first | exact x_retA (zc @okL_tk (zc @hkB (zc @hek (zc @htg (zc @tkA.eq_1 (zc @hTAl (zc @Bool.not_true (zc @hfd (zc (hgk y hy) (zc (hgl S' hk4) @e9)))))))))) | refine x_retAZ (zc @okL_tk (zc @hkB (zc @hek (zc @htg (zc @tkA.eq_1 (zc @hTAl (zc @Bool.not_true (zc @hfd (zc (hgk y hy) (zc (hgl S' hk4) @e9)))))))))) ?_)
                  have hn := srow_none hst ((tkL r).length - (k + 1))
                  rw [show k + 1 + ((tkL r).length - (k + 1)) = (tkL r).length by omega] at hn
                  rw [hn] at hrun
                  subst hrun
                  exact Vw.tup (.cons .emp (.cons (Vw.self trivial) .nil))
                · rw [if_neg hbig] at hst
                  have e9 : decide ((S'.length : Int) = 4000) = false := decide_eq_false (by omega)
                  have hup : updL (mpK sdK S') (.string (sdK y)) (.int (S'.length : Int)) = mpK sdK (S' ++ [(y, i, k)]) := by
                    rw [updL_new _ _ _ hfd, mpK_snoc]
                  have hS2 : 0 < S'.length := by omega
                  have hsn : stdL r f pl S' ++ [.agg [.strs r.ps, .lst 4 (r.ts.map thA), .lst 3 (r.pp.map ppA), .lst 3 (r.wy.map wyA), .lst 8 (r.ac.map acA), .lst 3 (r.au.map auA), .int r.n, .lst 3 (r.goal.map ltA), .ints f.ts, .ints f.pp, .ints f.pl, .ints y.ts, .ints y.pp, .ints pl, .int y.at_, .int i, .int t.kd, .int t.nu, .int t.ar]] = stdL r f pl (S' ++ [(y, i, k)]) := by
                    rw [stdL_snoc]
                    unfold elA elC elT elB
                    simp only [if_neg (show ¬ S'.length = 0 by omega), ht]
                  have htk : (stdL r f pl S').take S'.length = stdL r f pl S' := List.take_of_length_le (by omega)
                  (refine x_go (zc @okL_tk (zc @hkB (zc @hek (zc @htg (zc @tkA.eq_1 (zc @hTAl (zc @Bool.not_true (zc @hfd (zc (hgk y hy) (zc (hgl S' hk4) (zc @e9 (zc @hup (zc @hlen2 @htk))))))))))))) ?_)
                  (apply Run.pureFP; (exact x_ev (zc @okL_tk (zc @hkB (zc @hek (zc @htg (zc @tkA.eq_1 (zc @hTAl (zc @Bool.not_true (zc @hfd (zc (hgk y hy) (zc (hgl S' hk4) (zc @e9 (zc @hup (zc @hlen2 @htk)))))))))))))); (exact (Enters.of Tryz.func48 rfl rfl)); (exact c7); (exact x_al (zc @okL_tk (zc @hkB (zc @hek (zc @htg (zc @tkA.eq_1 (zc @hTAl (zc @Bool.not_true (zc @hfd (zc (hgk y hy) (zc (hgl S' hk4) (zc @e9 (zc @hup (zc @hlen2 @htk)))))))))))))); (try dsimp only [putA, optG]))
                  (refine x_gg (zc @okL_tk (zc @hkB (zc @hek (zc @htg (zc @tkA.eq_1 (zc @hTAl (zc @Bool.not_true (zc @hfd (zc (hgk y hy) (zc (hgl S' hk4) (zc @e9 (zc @hup (zc @hlen2 @htk))))))))))))) ?_)
                  (apply Run.pureFP; (exact x_ev (zc @okL_tk (zc @hkB (zc @hek (zc @htg (zc @tkA.eq_1 (zc @hTAl (zc @Bool.not_true (zc @hfd (zc (hgk y hy) (zc (hgl S' hk4) (zc @e9 (zc @hup (zc @hlen2 @htk)))))))))))))); (exact (Enters.of Tryz.func48 rfl rfl)); (exact c7); (exact x_al (zc @okL_tk (zc @hkB (zc @hek (zc @htg (zc @tkA.eq_1 (zc @hTAl (zc @Bool.not_true (zc @hfd (zc (hgk y hy) (zc (hgl S' hk4) (zc @e9 (zc @hup (zc @hlen2 @htk)))))))))))))); (try dsimp only [putA, optG]))
                  (refine x_gs (zc @okL_tk (zc @hkB (zc @hek (zc @htg (zc @tkA.eq_1 (zc @hTAl (zc @Bool.not_true (zc @hfd (zc (hgk y hy) (zc (hgl S' hk4) (zc @e9 (zc @hup (zc @hlen2 @htk))))))))))))) ?_)
                  refine ⟨(k + 1, S' ++ [(y, i, k)], ⟨v5 + 1, v6 + 1, v7 + 1 + 1, v8 + 1 + 1, v9 + 1 + 1, .row 3 [tkA t], .row 15 [.agg (kX r f pl y)], .row 1 [], .row 1 [], .row 1 []⟩), ?_, ⟨by simp only; omega, hst, by simp; omega, allOk_snoc hk4 hy⟩, by simp only; omega⟩
                  simp only [← hsn, List.length_append, List.length_singleton]
                  (refine Le.of ?_ ?_ rfl rfl <;> (try simp only [push_cast, seval, okL_tk, hkB, hek, htg, tkA, hTAl, Bool.not_true, hfd, hgk y hy, hgl S' hk4, e9, hup, hlen2, htk]) <;> (try (with_reducible rfl)))
                  all_goals (rw [hsn]; simp only [lsM, List.length_append, List.length_singleton])
          · intro hk5
            have hk5 : k = (tkL r).length := by
              have : ¬ k < (tkL r).length := by simpa using hk5
              omega
            subst hk5
            have hold := srow_old _ hk2
            have hle := (srow_len _ _ hk2).1
            have hev2 : enV f pl S (i + 1) = enV f pl S' (i + 1) := by
              unfold enV
              rw [enN_old (fun j hj => by unfold sc; rw [hold j (by omega)])]
            rw [hk2] at hrun
            (refine x_go (zc @okL_tk (zc @hkB @hek)) ?_)
            refine ⟨(i + 1, S', (v4 + 1, .row 15 [.agg (kX r f pl p.1)]), ⟨v5, v6, v7, v8, v9, k5, k6, k7, k8, k9⟩), ?_, ⟨by simp only; omega, hk3, hk4, by simp only; omega, hrun⟩, by simp only; omega⟩
            simp only [← hev2]
            (refine Le.of ?_ ?_ rfl rfl <;> (try simp only [push_cast, seval, okL_tk, hkB, hek]) <;> (try (with_reducible rfl)))
    · (intro hc; first | replace hc := bT hc | skip)
      obtain rfl : i = S.length := by omega
      have htt : tot = some S := by
        rw [← hi5, show 4001 - S.length = (4000 - S.length) + 1 by omega]
        show (if S.length < S.length then _ else _) = _
        rw [if_neg (Nat.lt_irrefl _)]
      have hbk := hsq S htt
      subst htt
      have hlen := stdL_len r f pl S
      cases hen : enN f pl S S.length with
      | none =>
        have hev : enV f pl S S.length = -1 := by unfold enV; rw [hen]
        (refine x_gg (zc @okL_tk (zc @hkB (zc @hek @hev))) ?_)
        (first | exact x_retA (zc @okL_tk (zc @hkB (zc @hek @hev))) | refine x_retAZ (zc @okL_tk (zc @hkB (zc @hek @hev))) ?_)
        simp only [hen]
        exact Vw.tup (.cons .emp (.cons (Vw.self trivial) .nil))
      | some e =>
        have hev : enV f pl S S.length = e := by unfold enV; rw [hen]
        have hel := (enN_lt hen).1
        have e9 : decide ((e : Int) < 0) = false := decide_eq_false (by omega)
        simp only [hen]
        generalize hk : (fun k => (tkL r).getD k tk0) = gt
        have hgt : ∀ k, (tkL r).getD k tk0 = gt k := fun k => by rw [← hk]
        (refine x_gg (zc @okL_tk (zc @hkB (zc @hek (zc @hev (zc @e9 @hlen))))) ?_)
        (repeat (first | apply Wp.seq | apply Wp.block | (apply Wp.skip; dsimp only [sQ, tQ, bQ])))
        apply Wp.adopt 20 3; (exact x_ev (zc @okL_tk (zc @hkB (zc @hek (zc @hev (zc @e9 @hlen))))))
        (refine x_go (zc @okL_tk (zc @hkB (zc @hek (zc @hev (zc @e9 @hlen))))) ?_)
        refine Wp.loop (fun (q : Nat × List Nat) => { t := [(10, .osl 2 S.length 0 S.length), (20, .osl 10 q.2.length 0 q.2.length), (21, .int q.1)], m := lsM r f pl S ⟨v4, k4⟩ g ++ [⟨q.2.length, .row 3 ((q.2.map gt).map tkA)⟩], n := 131 })
          (fun q => q.1 + q.2.length ≤ e ∧ pth S e e = q.2 ++ pth S (e - q.2.length) q.1) (fun q => q.1) (e, []) ?_ ?_ ?_
        · (refine Le.of ?_ ?_ rfl rfl <;> (try simp only [push_cast, seval, okL_tk, hkB, hek, hev, e9, hlen]) <;> (try (with_reducible rfl)))
          all_goals (first | exact ⟨rfl, rfl⟩ | rfl)
        · exact ⟨by simp, by simp⟩
        · rintro ⟨i, L⟩ ⟨hL1, hL2⟩
          simp only at hL1 hL2
          (refine x_go (zc @okL_tk (zc @hkB (zc @hek (zc @hev (zc @e9 @hlen))))) ?_)
          (apply Wp.cond; (exact x_ev (zc @okL_tk (zc @hkB (zc @hek (zc @hev (zc @e9 @hlen)))))))
          · intro hi6
            have hi6 : 0 < i := by simpa using hi6
            have hiS : i < S.length := by omega
            have hgd := fun d => stdL_getD (r := r) (f := f) (pl := pl) (S := S) d hiS
            have hb := hbk i hi6 hiS
            have hpn : pth S (e - L.length) i = st' S i :: pth S (e - (L.length + 1)) (sb S i) := by
              rw [show e - L.length = (e - (L.length + 1)) + 1 by omega]
              show (if i = 0 then [] else _) = _
              rw [if_neg (by omega)]
            have hs1 : st' S i = (S.getD i (default, 0, 0)).2.2 := rfl
            have hs2 : sb S i = (S.getD i (default, 0, 0)).2.1 := rfl
            obtain ⟨p, hp⟩ : ∃ p, S.getD i (default, 0, 0) = p := ⟨_, rfl⟩
            rw [hp] at hs1 hs2
            simp only [hp] at hgd
            rw [hs1, hs2] at hpn
            rw [hs2] at hb
            have heT : elT r i p = gt p.2.2 := by unfold elT; rw [if_neg (by omega), hgt]
            have heB : elB i p = p.2.1 := by unfold elB; rw [if_neg (by omega)]
            have hU : ((L.map gt).map tkA).take L.length = (L.map gt).map tkA := List.take_of_length_le (by simp)
            (refine x_gs (zc @okL_tk (zc @hkB (zc @hek (zc @hlen (zc @hgd (zc @elA.eq_1 (zc @elC.eq_1 (zc @heT (zc @heB (zc @lenMp @hU)))))))))) ?_)
            refine ⟨(p.2.1, L ++ [p.2.2]), ?_, ⟨by simp; omega, by simp only [List.length_append, List.length_singleton]; rw [hL2, hpn]; simp⟩, hb⟩
            simp only [List.map_append, List.map_cons, List.map_nil, List.length_append, List.length_singleton, tkA]
            (refine Le.of ?_ ?_ rfl rfl <;> (try simp only [push_cast, seval, okL_tk, hkB, hek, hlen, hgd, elA, elC, heT, heB, List.length_map, hU]) <;> (try (with_reducible rfl)))
          · intro hi6
            have hi6 : i = 0 := by simpa using hi6
            subst hi6
            have hpz : pth S (e - L.length) 0 = [] := by cases e - L.length <;> rfl
            rw [hpz, List.append_nil] at hL2
            rw [hL2]
            have hrv := fun a0 a1 a2 a3 a4 a5 a6 a7 a8 a9 => rev_spec (a0 := a0) (a1 := a1) (a2 := a2) (a3 := a3) (a4 := a4) (a5 := a5) (a6 := a6) (a7 := a7) (a8 := a8) (a9 := a9) L.length (L.map gt) (by simp; omega)
            rw [List.length_map] at hrv
            (refine x_go (zc @okL_tk (zc @hkB (zc @hek @hlen))) ?_)
            (apply Run.spec (he := (Enters.of Tryz.func55 rfl rfl)); exact rfl; (simp only [push_cast, seval, okL_tk, hkB, hek, hlen] <;> first | exact rfl | assumption); (exact x_ev (zc @okL_tk (zc @hkB (zc @hek @hlen)))); (exact hrv _ _ _ _ _ _ _ _ _ _); (rintro _ _ ⟨rfl, rfl⟩; dsimp only [Go.Vg.S.put, optG]))
            (refine x_go (zc @okL_tk (zc @hkB (zc @hek @hlen))) ?_)
            (first | exact x_retA (zc @okL_tk (zc @hkB (zc @hek @hlen))) | refine x_retAZ (zc @okL_tk (zc @hkB (zc @hek @hlen))) ?_)
            exact Vw.tup (.cons (Vw.osl rfl (by simp) (by decide) (by rw [List.drop_zero, List.take_of_length_le (by simp)]; exact VwL.okAll (by rw [okL_tk]; trivial))) (.cons (Vw.self trivial) .nil))
end Go.Proofs.Tryz
set_option maxHeartbeats 16000000
namespace Go.Proofs.Tryz
open Go.Vg

/-! check: the keeper plays a list; its memory in Check and in Play -/
abbrev ckM (a2 : Ent) (r : Rm) (f : St) (n1 n2 n3 : Nat) (ts pp pl : List Int) (a : Int) : Mem := [⟨1, .row 8 []⟩, ⟨1, .row 3 []⟩, a2, ⟨1, .row 8 []⟩, ⟨1, .row 3 []⟩, ⟨0, .row 3 [stA f]⟩, ⟨1, .row 15 [.agg (kO r f (.osl 9 1 0 n1) (.osl 10 1 0 n2) (.osl 11 1 0 n3) (.int a))]⟩, ⟨1, .row 3 []⟩, ⟨0, .row 3 [.agg [.osl 9 1 0 n1, .osl 10 1 0 n2, .osl 11 1 0 n3]]⟩, ⟨1, .row 1 (ts.map AV.int)⟩, ⟨1, .row 1 (pp.map AV.int)⟩, ⟨1, .row 1 (pl.map AV.int)⟩]
abbrev ckV (a2 : Ent) (r : Rm) (f : St) (n1 n2 n3 : Nat) (ts pp pl : List Int) (a : Int) (v : Nat) (kd : Kind) : Mem := [⟨1, .row 8 []⟩, ⟨1, .row 3 []⟩, a2, ⟨1, .row 8 []⟩, ⟨1, .row 3 []⟩, ⟨0, .row 3 [stA f]⟩, ⟨1, .row 15 [.agg (kO r f (.osl 9 1 0 n1) (.osl 10 1 0 n2) (.osl 11 1 0 n3) (.int a))]⟩, ⟨1, .row 3 []⟩, ⟨0, .row 3 [.agg [.osl 9 1 0 n1, .osl 10 1 0 n2, .osl 11 1 0 n3]]⟩, ⟨1, .row 1 (ts.map AV.int)⟩, ⟨1, .row 1 (pp.map AV.int)⟩, ⟨1, .row 1 (pl.map AV.int)⟩, ⟨v, kd⟩]
theorem cdo_walk (r : Rm) (f : St) (ts pp pl : List Int) (a : Int) (n : Nat) (ar : Int) (hn : n < r.wy.length) (hx : (0 ≤ (r.wy.getD n wy0).a ∧ (r.wy.getD n wy0).a ≤ 100) ∧ (0 ≤ (r.wy.getD n wy0).b ∧ (r.wy.getD n wy0).b ≤ 100) ∧ 0 ≤ a ∧ a ≤ 100) {a2 : Ent} (h2 : a2.kind.ok 13) (v n1 n2 n3 : Nat) (t : Tk) :
    Go.Vg.Spec Tryz.prog 54 [.optr 6 1 0 0, .agg [.int 1, .int n, .int ar]] (ckV a2 r f n1 n2 n3 ts pp pl a v (.row 3 [tkA t])) (fun x m' => x = .tup [] ∧ m' = ckV a2 r f n1 n2 n3 ts pp pl ((r.wy.getD n wy0).a + (r.wy.getD n wy0).b - a) v (.row 3 [tkA t])) := by
  have hgd := fun d => getD_wy (d := d) hn
  obtain ⟨x, hx2⟩ : ∃ x, r.wy.getD n wy0 = x := ⟨_, rfl⟩
  simp only [hx2] at hgd hx ⊢
  unfold ckV stA tkA
  (refine Spec.bd 13 Tryz.func54 Tryz.results54 Tryz.ntmps54 ?_; simp only [entry, zipArgs, Nat.reduceAdd])
  (refine x_gg (zc @hgd (zc @wyA.eq_1 @Int.toNat_natCast)) ?_)
  (apply Wp.runVE 10 mixed; (dsimp only [List.map] <;> exact rfl); exact rfl; kernel_rfl; (dsimp only [List.take] <;> exact rfl); (dsimp only [List.drop] <;> exact rfl); kernel_rfl; ((try dsimp only); (repeat (first | (apply AbsV.alc; exact rfl; (exact x_ev (zc @hgd (zc @wyA.eq_1 @Int.toNat_natCast))); ((try simp only [push_cast, seval, hgd, wyA, Int.toNat_natCast]) <;> exact sT); dsimp only [upd, alcV, List.length_cons, List.length_nil, Nat.reduceAdd]) | (apply AbsV.apn; exact rfl; (exact x_ev (zc @hgd (zc @wyA.eq_1 @Int.toNat_natCast))); ((try simp only [push_cast, seval, hgd, wyA, Int.toNat_natCast]) <;> exact sT); dsimp only [upd, alcV, List.length_cons, List.length_nil, Nat.reduceAdd]) | (apply AbsV.cons; exact rfl; exact rfl; (exact x_ev (zc @hgd (zc @wyA.eq_1 @Int.toNat_natCast))); ((try simp only [push_cast, seval, hgd, wyA, Int.toNat_natCast]) <;> exact sT); dsimp only [upd]))); exact AbsV.nil); exact rfl; ((try dsimp only [List.map, List.cons_append, List.nil_append]); (exact x_ev (zc @hgd (zc @wyA.eq_1 @Int.toNat_natCast)))); ((try simp only [push_cast, seval, hgd, wyA, Int.toNat_natCast]) <;> exact sT); dsimp only [upd])
  (refine x_mv (zc @hgd (zc @wyA.eq_1 @Int.toNat_natCast)) ?_)
  (apply Wp.runE 13 13 mixed; (dsimp only [List.map] <;> exact rfl); exact rfl; kernel_rfl; ((refine x_nx (zc @hgd (zc @wyA.eq_1 @Int.toNat_natCast)) ?_); (refine x_ef (zc @hgd (zc @wyA.eq_1 @Int.toNat_natCast)) ?_); exact Abe.nil))
  (refine x_gg (zc @hgd (zc @wyA.eq_1 @Int.toNat_natCast)) ?_)
  dsimp only [sQ, tQ, bQ]
  (apply leaveKN; exact rfl; (exact x_ev (zc @hgd (zc @wyA.eq_1 @Int.toNat_natCast))); ((exact x_cl (zc @hgd (zc @wyA.eq_1 @Int.toNat_natCast)))); ((exact x_cl (zc @hgd (zc @wyA.eq_1 @Int.toNat_natCast)))); (focus (first | (simp only [push_cast, seval, hgd, wyA, Int.toNat_natCast]; done) | trivial | (simp only [push_cast, seval, hgd, wyA, Int.toNat_natCast]; trivial) | (simp; done) | (simp only [List.take_succ_cons, List.take_zero, List.mem_cons, List.not_mem_nil, or_false, forall_eq_or_imp, forall_eq]; (try simp only [Kind.ok, okL, AV.ok]); (try simp only [okL_str, okL_th, okL_pp, okL_wy, okL_ac, okL_au, okL_lt, okL_mapInt]); simp_all))); (try simp only [push_cast, seval, hgd, wyA, Int.toNat_natCast]))
theorem cdo_turn (r : Rm) (f : St) (ts pp pl : List Int) (a : Int) (n : Nat) (ar : Int) (hn : n < ts.length) {a2 : Ent} (h2 : a2.kind.ok 13) (v n2 n3 : Nat) (t : Tk) :
    Go.Vg.Spec Tryz.prog 54 [.optr 6 1 0 0, .agg [.int 2, .int n, .int ar]] (ckV a2 r f ts.length n2 n3 ts pp pl a v (.row 3 [tkA t])) (fun x m' => x = .tup [] ∧ m' = ckV a2 r f ts.length n2 n3 (ts.set n ar) pp pl a v (.row 3 [tkA t])) := by
  unfold ckV stA tkA
  (refine Spec.bd 13 Tryz.func54 Tryz.results54 Tryz.ntmps54 ?_; simp only [entry, zipArgs, Nat.reduceAdd])
  (refine x_gg @Int.toNat_natCast ?_)
  (apply Wp.runE 10 10 mixed; (dsimp only [List.map] <;> exact rfl); exact rfl; kernel_rfl; ((refine x_nx @Int.toNat_natCast ?_); (refine x_ef @Int.toNat_natCast ?_); exact Abe.nil))
  (refine x_gg @Int.toNat_natCast ?_)
  dsimp only [sQ, tQ, bQ]
  (apply leaveKN; exact rfl; (exact x_ev @Int.toNat_natCast); ((exact x_cl @Int.toNat_natCast)); ((exact x_cl @Int.toNat_natCast)); (focus (first | (simp only [push_cast, seval, Int.toNat_natCast]; done) | trivial | (simp only [push_cast, seval, Int.toNat_natCast]; trivial) | (simp; done) | (simp only [List.take_succ_cons, List.take_zero, List.mem_cons, List.not_mem_nil, or_false, forall_eq_or_imp, forall_eq]; (try simp only [Kind.ok, okL, AV.ok]); (try simp only [okL_str, okL_th, okL_pp, okL_wy, okL_ac, okL_au, okL_lt, okL_mapInt]); simp_all))); (try simp only [push_cast, seval, Int.toNat_natCast]))
  try simp only [List.map_set]
theorem cdo_put (r : Rm) (f : St) (ts pp pl : List Int) (a : Int) (n : Nat) (ar : Int) (hn : n < pp.length) (hf : n < f.pp.length) {a2 : Ent} (h2 : a2.kind.ok 13) (v n1 n3 : Nat) (t : Tk) :
    Go.Vg.Spec Tryz.prog 54 [.optr 6 1 0 0, .agg [.int 3, .int n, .int ar]] (ckV a2 r f n1 pp.length n3 ts pp pl a v (.row 3 [tkA t])) (fun x m' => x = .tup [] ∧ m' = ckV a2 r f n1 pp.length n3 ts (pp.set n (f.pp.getD n 0)) pl a v (.row 3 [tkA t])) := by
  unfold ckV stA tkA
  (refine Spec.bd 13 Tryz.func54 Tryz.results54 Tryz.ntmps54 ?_; simp only [entry, zipArgs, Nat.reduceAdd])
  (refine x_gg @Int.toNat_natCast ?_)
  (apply Wp.runE 17 17 mixed; (dsimp only [List.map] <;> exact rfl); exact rfl; kernel_rfl; ((refine x_nx @Int.toNat_natCast ?_); (refine x_ef @Int.toNat_natCast ?_); exact Abe.nil))
  (refine x_gg @Int.toNat_natCast ?_)
  dsimp only [sQ, tQ, bQ]
  (apply leaveKN; exact rfl; (exact x_ev @Int.toNat_natCast); ((exact x_cl @Int.toNat_natCast)); ((exact x_cl @Int.toNat_natCast)); (focus (first | (simp only [push_cast, seval, Int.toNat_natCast]; done) | trivial | (simp only [push_cast, seval, Int.toNat_natCast]; trivial) | (simp; done) | (simp only [List.take_succ_cons, List.take_zero, List.mem_cons, List.not_mem_nil, or_false, forall_eq_or_imp, forall_eq]; (try simp only [Kind.ok, okL, AV.ok]); (try simp only [okL_str, okL_th, okL_pp, okL_wy, okL_ac, okL_au, okL_lt, okL_mapInt]); simp_all))); (try simp only [push_cast, seval, Int.toNat_natCast]))
  try simp only [List.map_set]
theorem cdo_spec {r : Rm} (hv : RV r) {f : St} (hf : SV r f) {pl : List Int} {x : Sd} (hx : SdOk r pl x) {t : Tk} (hc : canB r f (sdS pl x) x.at_ t = true) {a2 : Ent} (h2 : a2.kind.ok 13) (v : Nat) {n1 n2 : Nat} (e1 : n1 = x.ts.length) (e2 : n2 = x.pp.length) :
    Go.Vg.Spec Tryz.prog 54 [.optr 6 1 0 0, tkA t] (ckV a2 r f n1 n2 pl.length x.ts x.pp pl x.at_ v (.row 3 [tkA t])) (fun y m' => y = .tup [] ∧ m' = ckV a2 r f n1 n2 pl.length (nxT r f pl x t).ts (nxT r f pl x t).pp pl (nxT r f pl x t).at_ v (.row 3 [tkA t])) := by
  subst e1 e2
  have hps := hv.ps
  have hq : (tkA t) = .agg [.int t.kd, .int t.nu, .int t.ar] := rfl
  rw [show ([.optr 6 1 0 0, tkA t] : List AV) = [.optr 6 1 0 0, .agg [.int t.kd, .int t.nu, .int t.ar]] from rfl]
  have hts : (nxT r f pl x t).ts = (doS r f (sdS pl x) x.at_ t).ts := rfl
  have hpp : (nxT r f pl x t).pp = (doS r f (sdS pl x) x.at_ t).pp := rfl
  have hat : (nxT r f pl x t).at_ = doA r x.at_ t := rfl
  rw [hts, hpp, hat]
  unfold canB at hc
  unfold doS doA
  split at hc
  · rename_i hk
    have k2 : ¬ t.kd = 2 := by omega
    have k3 : ¬ t.kd = 3 := by omega
    rw [if_neg k2, if_neg k3, if_pos hk, hk]
    unfold wkB wi at hc
    simp only [Bool.and_eq_true, Bool.or_eq_true, decide_eq_true_eq] at hc
    obtain ⟨⟨_, q1, q2⟩, q3⟩ := hc
    obtain ⟨n, hn⟩ : ∃ n : Nat, t.nu = n := ⟨t.nu.toNat, by omega⟩
    rw [hn] at q1 q2 q3 ⊢
    simp only [Int.toNat_natCast] at *
    have hn : n < r.wy.length := by omega
    have hm := hv.wyv (r.wy.getD n wy0) (by rw [show r.wy.getD n wy0 = r.wy[n] by simp [hn]]; exact List.getElem_mem _)
    exact cdo_walk r f x.ts x.pp pl x.at_ n t.ar hn ⟨by omega, by omega, hx.2.1, by have := hx.2.2; omega⟩ h2 v _ _ _ t
  · rename_i hk1
    split at hc
    · rename_i hk
      rw [if_pos hk, if_neg (show ¬ t.kd = 1 by omega), hk]
      unfold tnB wi at hc
      simp only [Bool.and_eq_true, decide_eq_true_eq] at hc
      obtain ⟨⟨q1, q2⟩, _⟩ := hc
      obtain ⟨n, hn⟩ : ∃ n : Nat, t.nu = n := ⟨t.nu.toNat, by omega⟩
      rw [hn] at q1 q2 ⊢
      simp only [Int.toNat_natCast]
      exact cdo_turn r f x.ts x.pp pl x.at_ n t.ar (by have : x.ts.length = r.ts.length := hx.1.ts; omega) h2 v _ _ t
    · rename_i hk2
      split at hc
      · rename_i hk
        rw [if_neg hk2, if_pos hk, if_neg (show ¬ t.kd = 1 by omega), hk]
        unfold ptB wi at hc
        simp only [Bool.and_eq_true, decide_eq_true_eq] at hc
        obtain ⟨⟨⟨_, q1, q2⟩, _⟩, _⟩ := hc
        obtain ⟨n, hn⟩ : ∃ n : Nat, t.nu = n := ⟨t.nu.toNat, by omega⟩
        rw [hn] at q1 q2 ⊢
        simp only [Int.toNat_natCast]
        exact cdo_put r f x.ts x.pp pl x.at_ n t.ar (by have : x.pp.length = r.pp.length := hx.1.pp; omega) (by have := hf.pp; omega) h2 v _ _ t
      · cases hc
theorem kVw (a2 : Ent) (r : Rm) (f : St) (ts pp pl : List Int) (a : Int) (v : Nat) (kd : Kind) {n1 n2 n3 : Nat} (h1 : n1 = ts.length) (h2 : n2 = pp.length) (h3 : n3 = pl.length) : Vw (ckV a2 r f n1 n2 n3 ts pp pl a v kd) (.optr 6 1 0 0) (.ref (kC r f ⟨ts, pp, pl⟩ a) 0) := by
  subst h1 h2 h3
  refine Vw.optr rfl rfl (by simp [AV.cells]) ?_
  have h1 : VwL (ckV a2 r f ts.length pp.length pl.length ts pp pl a v kd) [.strs r.ps, .lst 4 (r.ts.map thA), .lst 3 (r.pp.map ppA), .lst 3 (r.wy.map wyA), .lst 8 (r.ac.map acA), .lst 3 (r.au.map auA), .int r.n, .lst 3 (r.goal.map ltA), .ints f.ts, .ints f.pp, .ints f.pl] [.strs r.ps, .lst 4 (r.ts.map thA), .lst 3 (r.pp.map ppA), .lst 3 (r.wy.map wyA), .lst 8 (r.ac.map acA), .lst 3 (r.au.map auA), .int r.n, .lst 3 (r.goal.map ltA), .ints f.ts, .ints f.pp, .ints f.pl] :=
    VwL.okAll (by simp [okL, AV.ok, okL_str, okL_th, okL_pp, okL_wy, okL_ac, okL_au, okL_lt, okL_mapInt])
  exact VwL.app h1 (.cons (Vw.ointsR rfl rfl) (.cons (Vw.ointsR rfl rfl) (.cons (Vw.ointsR rfl rfl) (.cons (Vw.self trivial) .nil))))
/-- how many tasks of a list can be done, and the stand behind them -/
def ckN (r : Rm) (f : St) (pl : List Int) : List Tk → Sd → Nat
  | [], _ => 0
  | t :: l, x => if canB r f (sdS pl x) x.at_ t = true then ckN r f pl l (nxT r f pl x t) + 1 else 0
def ckL (r : Rm) (f : St) (pl : List Int) : List Tk → Sd → Sd
  | [], x => x
  | t :: l, x => if canB r f (sdS pl x) x.at_ t = true then ckL r f pl l (nxT r f pl x t) else x
theorem ckL_ok {r : Rm} (hv : RV r) {f : St} (hf : SV r f) {pl : List Int} : ∀ (l : List Tk) {x : Sd}, SdOk r pl x → SdOk r pl (ckL r f pl l x)
  | [], _, h => h
  | t :: l, x, h => by
    unfold ckL
    split
    · rename_i hc; exact ckL_ok hv hf l (nx_ok hv hf h hc)
    · exact h
/-- what check answers -/
def ckR (r : Rm) (f : St) (pl : List Int) (l : List Tk) (x : Sd) : Int × Int :=
  if 200 < l.length then (0, 2) else if ckN r f pl l x < l.length then (ckN r f pl l x, 90) else if ovB f pl (ckL r f pl l x) = true then (0, 0) else (l.length, 90)
def ckF (r : Rm) (f : St) (pl : List Int) (l : List Tk) (x : Sd) : Sd := if 200 < l.length then x else ckL r f pl l x
theorem check_spec {r : Rm} (hz : Sz r) (hv : RV r) (hch : chE r = 0) {f : St} (hf : SV r f) {pl : List Int} {x0 : Sd} (hx0 : SdOk r pl x0) (l : List Tk) (hl : l.length ≤ 100000) {a2 : Ent} (h2 : a2.kind.ok 12) (h3 : a2.kind.ok 13) :
    Go.Vg.Spec Tryz.prog 71 [.optr 6 1 0 0, .lst 3 (l.map tkA)] (ckM a2 r f x0.ts.length x0.pp.length pl.length x0.ts x0.pp pl x0.at_) (fun y m' => y = .tup [.int (ckR r f pl l x0).1, .int (ckR r f pl l x0).2] ∧ m' = ckM a2 r f x0.ts.length x0.pp.length pl.length (ckF r f pl l x0).ts (ckF r f pl l x0).pp pl (ckF r f pl l x0).at_) := by
  have hTAl : (l.map tkA).length = l.length := List.length_map _
  have hgd : ∀ k, k < l.length → ∀ d, (l.map tkA).getD k d = tkA (l.getD k tk0) := fun k hk d => getD_tk d hk
  generalize hTk : l.map tkA = TA at *
  by_cases hbig : 200 < l.length
  · have e1 : decide ((200 : Int) < (l.length : Int)) = true := decide_eq_true (by omega)
    unfold ckR ckF
    rw [if_pos hbig, if_pos hbig]
    unfold ckM stA
    (refine Spec.bd 12 Tryz.func71 Tryz.results71 Tryz.ntmps71 ?_; simp only [entry, zipArgs, Nat.reduceAdd])
    (refine x_gg (zc @hTAl @e1) ?_)
    (first | exact x_retK (zc @hTAl @e1) | refine x_retKZ (zc @hTAl @e1) ?_)
  · have e1 : decide ((200 : Int) < (l.length : Int)) = false := decide_eq_false (by omega)
    unfold ckR ckF
    rw [if_neg hbig, if_neg hbig]
    obtain ⟨n1, hn1⟩ : ∃ n, x0.ts.length = n := ⟨_, rfl⟩
    obtain ⟨n2, hn2⟩ : ∃ n, x0.pp.length = n := ⟨_, rfl⟩
    rw [hn1, hn2]
    have hcn : ∀ x : Sd, SdOk r pl x → ∀ t, Pure Tryz.prog 52 [.ref (kX r f pl x) 0, tkA t] (.bool (canB r f (sdS pl x) x.at_ t)) := fun x hx t => can_pure hz f (s := ⟨x.ts, x.pp, pl⟩) (SV.zs hz hv hx.1) (by unfold csE; rw [orE_ok hch, if_pos (show csB r ⟨x.ts, x.pp, pl⟩ = true from csB_SV.2 hx.1)]) hf.pp (SV.zs hz hv hf).ts x.at_ t
    have hrs : ∀ x : Sd, SdOk r pl x → Pure Tryz.prog 51 [.ref (kX r f pl x) 0] (.bool (rsB f (sdS pl x))) := fun x hx => reset_pure r f ⟨x.ts, x.pp, pl⟩ (SV.zs hz hv hx.1) x.at_
    obtain ⟨M, hM⟩ : ∃ M, ckN r f pl l x0 = M := ⟨_, rfl⟩
    obtain ⟨L, hL⟩ : ∃ L, ckL r f pl l x0 = L := ⟨_, rfl⟩
    rw [hM, hL]
    unfold ckM stA
    (refine Spec.bd 12 Tryz.func71 Tryz.results71 Tryz.ntmps71 ?_; simp only [entry, zipArgs, Nat.reduceAdd])
    (refine x_gg (zc @hTAl @e1) ?_)
    (refine Wp.vacs 1 ?_; (try simp only [List.replicate_succ, List.replicate_zero, List.cons_append, List.nil_append]))
    refine Wp.loop (fun (q : Nat × Sd × Nat × Kind) => { t := [(0, .optr 6 1 0 0), (1, .lst 3 TA), (11, .lst 3 TA), (12, .int l.length), (13, .int q.1)], m := [⟨1, .row 8 []⟩, ⟨1, .row 3 []⟩, a2, ⟨1, .row 8 []⟩, ⟨1, .row 3 []⟩, ⟨0, .row 3 [.agg [.ints f.ts, .ints f.pp, .ints f.pl]]⟩, ⟨1, .row 15 [.agg (kO r f (.osl 9 1 0 n1) (.osl 10 1 0 n2) (.osl 11 1 0 pl.length) (.int q.2.1.at_))]⟩, ⟨1, .row 3 []⟩, ⟨0, .row 3 [.agg [.osl 9 1 0 n1, .osl 10 1 0 n2, .osl 11 1 0 pl.length]]⟩, ⟨1, .row 1 (q.2.1.ts.map AV.int)⟩, ⟨1, .row 1 (q.2.1.pp.map AV.int)⟩, ⟨1, .row 1 (pl.map AV.int)⟩, ⟨q.2.2.1, q.2.2.2⟩], n := 39 })
      (fun q => q.1 ≤ l.length ∧ SdOk r pl q.2.1 ∧ q.2.1.ts.length = n1 ∧ q.2.1.pp.length = n2 ∧ M = q.1 + ckN r f pl (l.drop q.1) q.2.1 ∧ L = ckL r f pl (l.drop q.1) q.2.1) (fun q => l.length - q.1) (0, x0, 0, .row 1 []) ?_ ?_ ?_
    · (refine Le.of ?_ ?_ rfl rfl <;> (try simp only [push_cast, seval, hTAl, e1]) <;> (try (with_reducible rfl)))
    · exact ⟨Nat.zero_le _, hx0, hn1, hn2, by simp [hM], by simp [hL]⟩
    · rintro ⟨k, x, v, kd⟩ ⟨hk1, hk2, hk3, hk4, hk5, hk6⟩
      simp only at hk1 hk2 hk3 hk4 hk5 hk6
      (refine x_go (zc @hTAl @e1) ?_)
      (apply Wp.cond; (exact x_ev (zc @hTAl @e1)))
      · intro hk7
        have hk7 : k < l.length := by simpa using hk7
        have htg := hgd k hk7
        have hdr : l.drop k = l.getD k tk0 :: l.drop (k + 1) := by
          rw [List.drop_eq_getElem_cons hk7]; simp [hk7]
        rw [hdr] at hk5 hk6
        obtain ⟨t, ht⟩ : ∃ t, l.getD k tk0 = t := ⟨_, rfl⟩
        rw [ht] at hk5 hk6
        simp only [ht] at htg
        have c4 := hcn x hk2 t
        unfold ckN at hk5
        unfold ckL at hk6
        cases hcb : canB r f (sdS pl x) x.at_ t with
        | false =>
          rw [hcb] at c4
          rw [if_neg (by rw [hcb]; simp)] at hk5 hk6
          unfold tkA at htg c4
          (refine x_gs (zc @hTAl @htg) ?_)
          (apply Run.alcAt 12; (exact x_ev (zc @hTAl @htg)); ((try simp only [push_cast, seval, hTAl, htg]) <;> exact sT); exact rfl; (try simp only [push_cast, seval, hTAl, htg]))
          (refine x_go (zc @hTAl @htg) ?_)
          (apply Run.pureW; (exact x_ev (zc @hTAl @htg)); (exact (Enters.of Tryz.func52 rfl rfl)); (exact c4); (exact VwL.cons (kVw a2 r f x.ts x.pp pl x.at_ _ _ hk3.symm hk4.symm rfl) (VwL.cons (Vw.self (by simp [AV.ok, okL])) VwL.nil)); (simp only [push_cast, seval, hTAl, htg] <;> first | trivial | assumption | (refine ⟨?_, ?_⟩ <;> assumption) | (simp; done)); (try dsimp only [putA, optG]))
          (refine x_gg (zc @hTAl @htg) ?_)
          (first | exact x_retK (zc @hTAl @htg) | refine x_retKZ (zc @hTAl @htg) ?_)
          rw [if_pos (by omega), hk6]
          refine ⟨?_, rfl⟩
          simp only [hk5, Nat.add_zero]
        | true =>
          rw [hcb] at c4
          rw [if_pos (by rw [hcb])] at hk5 hk6
          have hy := nx_ok hv hf hk2 hcb
          have hyl : (nxT r f pl x t).ts.length = n1 ∧ (nxT r f pl x t).pp.length = n2 := ⟨(hy.1.ts.trans hk2.1.ts.symm).trans hk3, (hy.1.pp.trans hk2.1.pp.symm).trans hk4⟩
          have c6 := fun v => cdo_spec hv hf hk2 hcb h3 v hk3.symm hk4.symm
          generalize nxT r f pl x t = y at *
          unfold tkA at htg c4 c6
          unfold ckV stA at c6
          (refine x_gs (zc @hTAl @htg) ?_)
          (apply Run.alcAt 12; (exact x_ev (zc @hTAl @htg)); ((try simp only [push_cast, seval, hTAl, htg]) <;> exact sT); exact rfl; (try simp only [push_cast, seval, hTAl, htg]))
          (refine x_go (zc @hTAl @htg) ?_)
          (apply Run.pureW; (exact x_ev (zc @hTAl @htg)); (exact (Enters.of Tryz.func52 rfl rfl)); (exact c4); (exact VwL.cons (kVw a2 r f x.ts x.pp pl x.at_ _ _ hk3.symm hk4.symm rfl) (VwL.cons (Vw.self (by simp [AV.ok, okL])) VwL.nil)); (simp only [push_cast, seval, hTAl, htg] <;> first | trivial | assumption | (refine ⟨?_, ?_⟩ <;> assumption) | (simp; done)); (try dsimp only [putA, optG]))
          (refine x_gg (zc @hTAl @htg) ?_)
          (apply Run.spec (he := (Enters.of Tryz.func54 rfl rfl)); exact rfl; (simp only [push_cast, seval, hTAl, htg] <;> first | exact rfl | assumption); (exact x_ev (zc @hTAl @htg)); (exact c6 _); (rintro _ _ ⟨rfl, rfl⟩; dsimp only [Go.Vg.S.put, optG]))
          (refine x_gg (zc @hTAl @htg) ?_)
          refine ⟨(k + 1, y, v + 1, .row 3 [.agg [.int t.kd, .int t.nu, .int t.ar]]), ?_, ⟨by simp only; omega, hy, hyl.1, hyl.2, by rw [hk5]; simp only; omega, hk6⟩, by simp only; omega⟩
          (refine Le.of ?_ ?_ rfl rfl <;> (try simp only [push_cast, seval, hTAl, htg]) <;> (try (with_reducible rfl)))
      · intro hk7
        obtain rfl : k = l.length := by
          have : ¬ k < l.length := by simpa using hk7
          omega
        rw [List.drop_length] at hk5 hk6
        have hk5 : M = l.length := by rw [hk5]; rfl
        have hk6 : L = x := hk6
        subst hk6
        have c3 := hrs L hk2
        rw [if_neg (by omega)]
        unfold ovB
        generalize rsB f (sdS pl L) = rb at *
        (refine x_go (zc @hTAl @e1) ?_)
        (apply Run.pureW; (exact x_ev (zc @hTAl @e1)); (exact (Enters.of Tryz.func51 rfl rfl)); (exact c3); (exact VwL.cons (kVw a2 r f L.ts L.pp pl L.at_ _ _ hk3.symm hk4.symm rfl) VwL.nil); (simp only [push_cast, seval, hTAl, e1] <;> first | trivial | assumption | (refine ⟨?_, ?_⟩ <;> assumption) | (simp; done)); (try dsimp only [putA, optG]))
        (refine x_gg (zc @hTAl @e1) ?_)
        (apply Wp.cond; (exact x_ev (zc @hTAl @e1)))
        · intro hq
          rw [if_neg (by simp only [push_cast] at hq ⊢; revert hq; cases rb <;> simp)]
          (refine x_gg (zc @hTAl @e1) ?_)
          (first | exact x_retK (zc @hTAl @e1) | refine x_retKZ (zc @hTAl @e1) ?_)
        · intro hq
          rw [if_pos (by simp only [push_cast] at hq ⊢; revert hq; cases rb <;> simp)]
          (refine x_gg (zc @hTAl @e1) ?_)
          (first | exact x_retK (zc @hTAl @e1) | refine x_retKZ (zc @hTAl @e1) ?_)
end Go.Proofs.Tryz
namespace Go.Vg
open Go.RowKit
variable {P : Program}

section
variable {gds : List (Option Nat)} {ops l : List Oper} {m F : Mem} {B0 B1 : Ent} {n k c b e : Nat} {t t' : List (Nat × AV)} {x : AV} {p : Prop} {dst : Option Nat} {op : Op} {type : TypeId} {pos : String} {after : Array Edge}
end
end Go.Vg
set_option maxHeartbeats 16000000
namespace Go.Proofs.Tryz
open Go.Vg

/-! the document's tasks -/
end Go.Proofs.Tryz
set_option maxHeartbeats 16000000
namespace Go.Proofs.Tryz
open Go.Vg

/-! the document's play, Check and Play -/
/-- what Check and Play answer -/
def ckA (r : Rm) (s : St) (l : List Tk) : AV := if begE r s = 0 then .tup [.int (ckR r (bgS r) s.pl l (lsB r s)).1, .int (ckR r (bgS r) s.pl l (lsB r s)).2] else .tup [.int 0, .int (begE r s)]
def plA (r : Rm) (s : St) (l : List Tk) : AV := if begE r s = 0 then (if (ckR r (bgS r) s.pl l (lsB r s)).2 = 0 then .tup [stA (sdS s.pl (ckL r (bgS r) s.pl l (lsB r s))), .int 0] else .tup [stN, .int (ckR r (bgS r) s.pl l (lsB r s)).2]) else .tup [stN, .int (begE r s)]
theorem lsB_ok {r : Rm} {s : St} (hv : RV r) (hs2 : SV r s) : SdOk r s.pl (lsB r s) := ⟨hs2, Int.le_refl _, by have := hv.ps; simp only [lsB]; omega⟩
theorem ckR_ok {r : Rm} {f : St} {pl : List Int} {l : List Tk} {x : Sd} (h : (ckR r f pl l x).2 = 0) : l.length ≤ 200 ∧ ¬ ckN r f pl l x < l.length ∧ ovB f pl (ckL r f pl l x) = true ∧ ckR r f pl l x = (0, 0) := by
  unfold ckR at h ⊢
  split at h
  · cases h
  · rename_i h1
    split at h
    · cases h
    · rename_i h2
      split at h
      · rename_i h3
        exact ⟨by omega, h2, h3, by rw [if_neg h1, if_neg h2, if_pos h3]⟩
      · cases h
end Go.Proofs.Tryz
namespace Go.Vg.Ek
open Go.RowKit
variable {P : Program}
structure EvP where
  n : Nat
  kn : FuncId → Option (Mem → List AV → Option (List AV × AV))
def vwB (m : Mem) : Nat → AV → AV → Bool
  | 0, _, _ => false
  | n + 1, x, y =>
    let go : List AV → List AV → Bool := fun xs ys => (List.zipWith (vwB m n) xs ys).all id && Nat.beq xs.length ys.length
    match x, y with
    | .osl id ver off len, .lst sz ys => (match rowM m id ver with
      | some (sz', l) => (match Nat.beq sz' sz, Nat.ble (off + len) l.length, Nat.ble 1 sz with
        | true, true, true => go ((l.drop off).take len) ys
        | _, _, _ => false)
      | none => false)
    | .optr id ver i j, .ref ys j' => (match Nat.beq j j', rowM m id ver with
      | true, some (_, l) => (match l[i]? with
        | some x => (match Nat.ble (j + 1) x.cells.length with
          | true => go x.cells ys
          | false => false)
        | none => false)
      | _, _ => false)
    | .agg xs, .agg ys => go xs ys
    | .emp, .lst _ [] => true
    | x, y => (match mxV x with
      | 0 => eqV x y
      | _ => false)
def vwBL (m : Mem) (n : Nat) (xs ys : List AV) : Bool := (List.zipWith (vwB m n) xs ys).all id && Nat.beq xs.length ys.length
theorem vwBL_of {m : Mem} {g : AV → AV → Bool} (hg : ∀ x y, g x y = true → Vw m x y) : ∀ {xs ys : List AV}, ((List.zipWith g xs ys).all id && Nat.beq xs.length ys.length) = true → VwL m xs ys
  | [], [], _ => .nil
  | [], _ :: _, h => by simp at h
  | _ :: _, [], h => by simp at h
  | x :: xs, y :: ys, h => by
    simp only [List.zipWith_cons_cons, List.all_cons, id, Bool.and_eq_true, List.length_cons, Nat.beq_eq] at h
    refine .cons (hg x y h.1.1) (vwBL_of hg ?_)
    simp only [Bool.and_eq_true, Nat.beq_eq]
    exact ⟨h.1.2, by omega⟩
theorem vwB_ok {m : Mem} : ∀ (n : Nat) (x y : AV), vwB m n x y = true → Vw m x y
  | 0, x, y, h => by cases h
  | n + 1, x, y, h => by
    have ih := fun x y => vwB_ok (m := m) n x y
    unfold vwB at h
    simp only at h
    split at h
    · split at h
      · rename_i sz' l hr
        split at h
        · rename_i h1 h2 h3
          rw [Nat.beq_eq] at h1
          rw [Nat.ble_eq] at h2 h3
          subst h1
          exact .osl (rowM_ok hr) h2 (by omega) (vwBL_of ih h)
        · cases h
      · cases h
    · split at h
      · rename_i sz' l h1 hr
        rw [Nat.beq_eq] at h1
        subst h1
        split at h
        · rename_i x hx
          split at h
          · rename_i hj
            rw [Nat.ble_eq] at hj
            exact .optr (rowM_ok hr) hx (by omega) (vwBL_of ih h)
          · cases h
        · cases h
      · cases h
    · exact .agg (vwBL_of ih h)
    · exact .emp
    · split at h
      · rename_i h0
        have e := eqV_ok _ _ h
        subst e
        exact .self (mxV_ok _ (by omega))
      · cases h
/-- a function, by the code's evaluator -/
def xF (P : Program) (nf : EvP) (ih : Code → S → Option (Exit × S)) (f : FuncId) (args : List AV) (m : Mem) : Option (AV × Mem) :=
  match nf.kn f with
  | some g =>
    match g m args with
    | some (va, x) =>
      match vwBL m 20 args va, plainB x with
      | true, true => some (x, m)
      | _, _ => none
    | none => none
  | none =>
  match Nat.ble (f + 1) nf.n, P.funcs[f]? with
  | true, some fn =>
    match fn.body, Nat.ble args.length fn.ntmps with
    | some c, true =>
      match ih c (entry args m fn.ntmps) with
      | some (.normal, s) => leaveC P fn.results.toList m.length s
      | some (.ret, s) => leaveC P fn.results.toList m.length s
      | _ => none
    | _, _ => none
  | _, _ => none
/-- no function before the n-th is the one that the model knows by its name; the table's answers are right -/
def Named (P : Program) (nf : EvP) : Prop := Go.Vg.Named P nf.n ∧ ∀ f g, nf.kn f = some g → Enters P f ∧ ∀ m args va x, g m args = some (va, x) → Pure P f va x
def Sound (P : Program) (ih : Code → S → Option (Exit × S)) : Prop := ∀ (r : Option Nat) (c : Code) (s s' : S) (e : Exit) (Q : Exit → S → Prop), ih c s = some (e, s') → Q e s' → Wp P r c Q s
/-- one operation, in the order of the text -/
def xO1 (P : Program) (nf : EvP) (ih : Code → S → Option (Exit × S)) (s : S) (dst : Option Nat) (op : Op) : Option S :=
  match op with
  | .call ⟨.value fo, args, tys⟩ => (match calleeC (evoC s.t fo) with
    | some (f, fs, cs) => (match xF P nf ih f (fs ++ (args.toList.map (evoC s.t) ++ cs)) s.m with
      | some (x, m') => some (putA ⟨s.t, m', s.n, s.d⟩ dst x)
      | none => none)
    | none => none)
  | op => match opC P s.t s.m op with
    | some (m', x) => fV x fun x => some (putA ⟨s.t, m', s.n, s.d⟩ dst x)
    | none => none
def xO (P : Program) (nf : EvP) (ih : Code → S → Option (Exit × S)) (gds : List (Option Nat)) (s : S) (o : Oper) : Option S :=
  match o.guard with
  | none => xO1 P nf ih s o.dst o.op
  | some g => match gvalC gds s.t g with
    | some true => xO1 P nf ih s o.dst o.op
    | some false => (match isDefer o.op with
      | true => none
      | false => some (putA s o.dst (.opt false (.bool false))))
    | none => none
def xL (P : Program) (nf : EvP) (ih : Code → S → Option (Exit × S)) (gds : List (Option Nat)) : List Oper → S → Option S
  | [], s => some s
  | o :: l, s => match xO P nf ih gds s o with
    | some s1 => xL P nf ih gds l s1
    | none => none

section
variable {gds : List (Option Nat)} {nf : EvP} {ih : Code → S → Option (Exit × S)} (hE : Named P nf) (hs : Sound P ih)
include hE hs
end

def xN1 (P : Program) (nf : EvP) (ih : Code → S → Option (Exit × S)) (s : S) (op : Op) : Option AV :=
  match op with
  | .call ⟨.value fo, args, tys⟩ => (match fnOf (evoC s.t fo) with
    | some (f, caps) => (match Nat.beq (mxL ((args.toList.map (evoC s.t) ++ caps).map (view s.m))) 0 with
      | true => (match xF P nf ih f ((args.toList.map (evoC s.t) ++ caps).map (view s.m)) [] with
        | some (x, []) => (match plainB x with
          | true => some x
          | false => none)
        | _ => none)
      | false => none)
    | none => none)
  | .pick c a b => (match evoC s.t c with
    | .val (.bool true) => some (evoC s.t a)
    | .val (.bool false) => some (evoC s.t b)
    | _ => none)
  | op => match evC P s.t s.m op with
    | some x => some x
    | none => match bldC P s.t op with
      | some (sz, xs) => some (.lst sz xs)
      | none => none
def xN (P : Program) (nf : EvP) (ih : Code → S → Option (Exit × S)) (gds : List (Option Nat)) : List Oper → S → Option S
  | [], s => some s
  | o :: l, s =>
    match (match o.guard with
      | none => xN1 P nf ih s o.op
      | some g => (match gvalC gds s.t g with
        | some true => xN1 P nf ih s o.op
        | some false => (match isDefer o.op with
          | true => none
          | false => some (.opt false (.bool false)))
        | none => none)) with
    | some x => fV x fun x => xN P nf ih gds l (putA s o.dst x)
    | none => none
section
variable {gds : List (Option Nat)} {nf : EvP} {ih : Code → S → Option (Exit × S)} (hE : Named P nf) (hs : Sound P ih)
include hE hs
end

def stepX1 (P : Program) (nf : EvP) (ih : Code → S → Option (Exit × S)) (t : List (Nat × AV)) (m : Mem) (op : Op) (aid : Nat) : Option (AV × Option Mem) :=
  match isAlc op with
  | true => (match alcC P t op, getM m aid with
    | some (sz, l, q), some e => setM m aid ⟨e.ver + 1, .row sz l⟩ fun m' => some (alcV aid (e.ver + 1) q, some m')
    | _, _ => none)
  | false =>
    match op with
    | .call ⟨.value fo, args, tys⟩ => (match fnOf (evoC t fo) with
      | some (f, caps) => (match xF P nf ih f (args.toList.map (evoC t) ++ caps) m with
        | some (x, m') => (match eqM m' m with
          | true => some (x, none)
          | false => some (x, some m'))
        | none => none)
      | none => none)
    | .pick c a b => (match evoC t c with
      | .val (.bool true) => some (evoC t a, none)
      | .val (.bool false) => some (evoC t b, none)
      | _ => none)
    | op => (match evC P t m op with
      | some x => some (x, none)
      | none => (match effC P t m op with
        | some (m', x) => some (x, some m')
        | none => none))
def stepX (P : Program) (nf : EvP) (ih : Code → S → Option (Exit × S)) (gds : List (Option Nat)) (t : List (Nat × AV)) (m : Mem) (o : Oper) (aid : Nat) : Option (AV × Option Mem) :=
  match o.guard with
  | none => stepX1 P nf ih t m o.op aid
  | some g => (match gvalC gds t g with
    | some true => stepX1 P nf ih t m o.op aid
    | some false => (match isDefer o.op with
      | true => none
      | false => some (.opt false (.bool false), none))
    | none => none)
section
variable {gds : List (Option Nat)} {nf : EvP} {ih : Code → S → Option (Exit × S)} (hE : Named P nf) (hs : Sound P ih)
include hE hs
end

/-- what was found at an operation, in the order of the text -/
structure Rec where
  t : List (Nat × AV)
  m : Mem
  o : Oper
  aid : Nat
  x : AV
  om : Option Mem
def ChainX (P : Program) (nf : EvP) (ih : Code → S → Option (Exit × S)) (gds : List (Option Nat)) : List Rec → List Oper → List (Nat × AV) → Mem → List (Nat × AV) → Prop
  | [], [], t, _, t' => t = t'
  | r :: rs, o :: l, t, m, t' => r.t = t ∧ r.m = m ∧ r.o = o ∧ stepX P nf ih gds r.t r.m r.o r.aid = some (r.x, r.om) ∧ ChainX P nf ih gds rs l (upd t o.dst r.x) (r.om.getD m) t'
  | _, _, _, _, _ => False
/-- a first run, in the order of the text -/
def firstX (P : Program) (nf : EvP) (ih : Code → S → Option (Exit × S)) (gds : List (Option Nat)) : List Oper → List (Nat × AV) → Mem → Nat → Option (List Rec × List (Nat × AV))
  | [], t, _, _ => some ([], t)
  | o :: l, t, m, aid =>
    match stepX P nf ih gds t m o aid with
    | some (x, om) => fV x fun x =>
      (match firstX P nf ih gds l (upd t o.dst x) (om.getD m) (match isAlc o.op with
        | true => aid + 1
        | false => aid) with
      | some (rs, t') => some (⟨t, m, o, aid, x, om⟩ :: rs, t')
      | none => none)
    | none => none
/-- the numbers of those that turn memory -/
def effIdx : List Rec → Nat → List Nat
  | [], _ => []
  | r :: l, k => match r.om with
    | some _ => fN k fun k => k :: effIdx l (k + 1)
    | none => effIdx l (k + 1)
def effRec : List Rec → List Rec
  | [] => []
  | r :: l => match r.om with
    | some _ => r :: effRec l
    | none => effRec l
/-- the memory, where just the first ones are listed -/
def lastM : List Rec → List Bool → Mem → Option Mem
  | r :: rs, true :: bs, m => lastM rs bs (r.om.getD m)
  | _, bs, m => match bs.any id with
    | true => none
    | false => some m
def foldM (P : Program) (gds : List (Option Nat)) : List Rec → List Bool → Mem → Mem
  | r :: rs, b :: bs, m => (match b with
    | true => (match stepX P ⟨0, fun _ => none⟩ (fun _ _ => none) gds r.t m r.o r.aid with
      | some (_, some m') => foldM P gds rs bs m'
      | _ => foldM P gds rs bs m)
    | false => foldM P gds rs bs m)
  | _, _, m => m
def memOf (P : Program) (gds : List (Option Nat)) (rs : List Rec) (mv : Mem) (bits : List Bool) : Mem :=
  match lastM rs bits mv with
  | some m => m
  | none => foldM P gds rs bits mv
def aimX (es : List Nat) (mem : List Bool → Mem) (k : Nat) (b : List Bool) : Option Mem → Bool
  | none => (match es.contains k with
    | false => true
    | true => eqM (mem b) (mem (setB es k b)))
  | some m' => eqM m' (mem (setB es k b))
/-- an operation at each memory that may be there -/
def allX (P : Program) (nf : EvP) (ih : Code → S → Option (Exit × S)) (gds : List (Option Nat)) (es : List Nat) (mem : List Bool → Mem) (k : Nat) (r : Rec) : List (List Bool) → Bool
  | [] => true
  | b :: bs =>
    match (match (match r.om, r.o.op with
        | some _, _ => eqM r.m (mem b)
        | none, .call ⟨.value _, _, _⟩ => eqM r.m (mem b)
        | _, _ => false) with
      | true => aimX es mem k b r.om
      | false => (match stepX P nf ih gds r.t (mem b) r.o r.aid with
        | some (y, om) => (match eqV y r.x with
          | true => aimX es mem k b om
          | false => false)
        | none => false)) with
    | true => allX P nf ih gds es mem k r bs
    | false => false
def xM2 (P : Program) (nf : EvP) (ih : Code → S → Option (Exit × S)) (gds : List (Option Nat)) (ops : List Oper) (es : List Nat) (mem : List Bool → Mem) (n : Nat) : List Rec → Nat → Bool
  | [], _ => true
  | r :: rs, k =>
    match allX P nf ih gds es mem k r (consL ops es k), dstB n r.o.dst with
    | true, true => xM2 P nf ih gds ops es mem n rs (k + 1)
    | _, _ => false
def vacs (n : Nat) : Mem := List.replicate n ⟨0, .row 1 []⟩
def xM (P : Program) (nf : EvP) (ih : Code → S → Option (Exit × S)) (ops : List Oper) (s : S) : Option S :=
  match (ops.map (·.dst)).all (dstB s.n), ordB (ops.map (·.dst)) ops ops.length with
  | true, true =>
    fM (s.m.length + alcNo ops) (s.m ++ vacs (alcNo ops)) fun mv =>
    (match firstX P nf ih (ops.map (·.dst)) ops s.t mv s.m.length with
    | some (rs, t) =>
      (match xM2 P nf ih (ops.map (·.dst)) ops (effIdx rs 0) (memOf P (ops.map (·.dst)) (effRec rs) mv) s.n rs 0, (effIdx rs 0).all (fun e => Nat.ble (e + 1) ops.length) with
      | true, true => fM (memOf P (ops.map (·.dst)) (effRec rs) mv ((effIdx rs 0).map fun _ => true)).length (memOf P (ops.map (·.dst)) (effRec rs) mv ((effIdx rs 0).map fun _ => true)) fun m => some ⟨t, m, s.n, s.d⟩
      | _, _ => none)
    | none => none)
  | _, _ => none
section
variable {gds : List (Option Nat)} {nf : EvP} {ih : Code → S → Option (Exit × S)} (hE : Named P nf) (hs : Sound P ih)
include hE hs
theorem aimX_ok {es : List Nat} {mem : List Bool → Mem} {k : Nat} {b : List Bool} {om : Option Mem} (hl : b.length = es.length) (h : aimX es mem k b om = true) : mem (setB es k b) = om.getD (mem b) := by
  cases om with
  | none =>
    simp only [aimX] at h
    split at h
    · rename_i hc
      rw [setB_not hc b hl]; rfl
    · exact (eqM_ok h).symm
  | some m' => exact (eqM_ok h).symm
end

def keysC : List (Nat × AV) → List Nat → List Nat
  | [], acc => acc
  | (k, _) :: t, acc => match acc.any fun j => Nat.beq j k with
    | true => keysC t acc
    | false => keysC t (k :: acc)
def restr {α : Type} (t : List (Nat × AV)) : List Nat → (List (Nat × AV) → α) → α
  | [], k => k []
  | j :: js, k => fV (lookB t j) fun x => restr t js fun l => k ((j, x) :: l)
theorem restr_eq {α : Type} (t : List (Nat × AV)) : ∀ (js : List Nat) (k : List (Nat × AV) → α), restr t js k = k (js.map fun j => (j, look t j))
  | [], _ => rfl
  | j :: js, k => by simp [restr, fV_eq, restr_eq t js, lookB_eq]
def xLoop (ih : Code → S → Option (Exit × S)) (c : Code) (ks : List Nat) (n : Nat) : S → Option (Exit × S) :=
  Nat.rec (fun _ => none) (fun _ go s => match ih c s with
    | some (.normal, s1) => restr s1.t ks fun t => go ⟨t, s1.m, s1.n, s1.d⟩
    | r => r) n
def stepC (P : Program) (nf : EvP) (n : Nat) (ih : Code → S → Option (Exit × S)) (c : Code) (s : S) : Option (Exit × S) :=
  match c with
  | .skip => some (.normal, s)
  | .exit id => some (.exit id, s)
  | .ret => some (.ret, s)
  | .seq a b => (match ih a s with
    | some (.normal, s1) => ih b s1
    | r => r)
  | .block id c => (match ih c s with
    | some (.exit id', s1) => (match Nat.beq id' id with
      | true => some (.normal, s1)
      | false => some (.exit id', s1))
    | r => r)
  | .cond c a b => (match evoC s.t c with
    | .val (.bool true) => ih a s
    | .val (.bool false) => ih b s
    | _ => none)
  | .loop c => restr s.t (keysC s.t []) fun t => xLoop ih c (keysC s.t []) n ⟨t, s.m, s.n, s.d⟩
  | .region _ ops false =>
    (match (ops.toList.map (·.dst)).all (dstB s.n) with
    | true => (match xL P nf ih (ops.toList.map (·.dst)) ops.toList s with
      | some s1 => some (.normal, s1)
      | none => none)
    | false => none)
  | .region _ ops true =>
    (match (ops.toList.map (·.dst)).all (dstB s.n), drawB (ops.toList.map (·.dst)) ops.toList (calmN ops.toList) with
    | true, false => (match xM P nf ih ops.toList s with
      | some s1 => some (.normal, s1)
      | none => none)
    | true, true => (match xN P nf ih (ops.toList.map (·.dst)) (ops.toList.take (calmN ops.toList)) s with
      | some s1 => (match xL P nf ih (ops.toList.map (·.dst)) (ops.toList.drop (calmN ops.toList)) s1 with
        | some s2 => some (.normal, s2)
        | none => none)
      | none => (match xM P nf ih ops.toList s with
        | some s1 => some (.normal, s1)
        | none => none))
    | _, _ => none)
  | _ => none
/-- the evaluator of code -/
def xC (P : Program) (nf : EvP) (n : Nat) : Code → S → Option (Exit × S) := Nat.rec (fun _ _ => none) (fun n ih => stepC P nf n ih) n
end Go.Vg.Ek
set_option maxHeartbeats 16000000
namespace Go.Proofs.Tryz
open Go.Vg

/-! the example -/
theorem namedEv : Named Tryz.prog 201 := namedB_ok (by kernel_rfl)
/-- a function's run, by the evaluator; what it hands back reads as y -/
theorem xFw_pure {f : FuncId} {args : List AV} {y : AV} (h : (match xF Tryz.prog 201 (xC Tryz.prog 201 100000) f args [] with
    | some (x, m) => Ek.vwB m 20 x y
    | none => false) = true) : Pure Tryz.prog f args y := by
  split at h
  · rename_i x m hx
    refine Spec.frz ((xF_spec namedEv mixed hx).mono fun x' m' h' => ?_)
    obtain ⟨rfl, rfl⟩ := h'
    exact Ek.vwB_ok _ _ _ h
  · cases h
def exR : Rm := ⟨[⟨#[104, 97, 108, 108]⟩, ⟨#[118, 97, 117, 108, 116]⟩], [⟨⟨#[98, 111, 120]⟩, 0, 2, 0⟩, ⟨⟨#[100, 111, 111, 114]⟩, 0, 2, 0⟩], [⟨⟨#[107, 101, 121]⟩, 0, [⟨0, 1, false⟩]⟩], [⟨0, 1, [⟨1, 1, false⟩]⟩], [⟨⟨#[111, 112, 101, 110]⟩, 0, 0, [], [], [⟨0, 1⟩], [], []⟩, ⟨⟨#[116, 117, 114, 110]⟩, 0, -1, [0], [], [⟨1, 1⟩], [0], []⟩], [], 1, []⟩
def exS : St := ⟨[1, 1], [-1], [0]⟩
theorem example_pure : Pure Tryz.prog 45 [] (rmA exR) := xFw_pure (by kernel_rfl)
end Go.Proofs.Tryz
set_option maxHeartbeats 16000000
namespace Go.Proofs.Tryz
open Go.Vg

theorem exBeg : begE exR exS = 0 := by kernel_rfl
theorem exLe : ∃ t, (leT exR exS).1 = 0 ∧ (leT exR exS).2 = [⟨2, 1, 0⟩, ⟨3, 0, 0⟩, t] := by
  refine ⟨((leT exR exS).2.getD 2 tk0), by kernel_rfl, by kernel_rfl⟩
theorem exSz : Sz exR := farB_Sz (by kernel_rfl)
theorem exZs : Zs exS := ⟨by simp [exS], by simp [exS], by simp [exS]⟩
theorem works_pure : Pure Tryz.prog 15 [] (.bool true) := by
  have h1 := example_pure
  have h2 := least_ok exSz exZs exBeg
  obtain ⟨t, e1, e2⟩ := exLe
  rw [e1, e2] at h2
  unfold stA exS at h2
  simp only at h2
  unfold rmA rmC at h1 h2
  simp only [List.map_cons, List.map_nil, tkA] at h2
  (refine Spec.bd 0 Tryz.func15 Tryz.results15 Tryz.ntmps15 ?_; simp only [entry, zipArgs, Nat.reduceAdd])
  (refine w_go ?_)
  (apply Run.pureFP; (exact w_ev); (exact (Enters.of Tryz.func45 rfl rfl)); (exact h1); (exact w_al); (try dsimp only [putA, optG]))
  (refine w_go ?_)
  (apply Run.pureFP; (exact w_ev); (exact (Enters.of Tryz.func16 rfl rfl)); (exact h2); (exact w_al); (try dsimp only [putA, optG]))
  (refine w_gg ?_)
  (first | exact w_ret | refine w_retZ ?_)
end Go.Proofs.Tryz
set_option maxHeartbeats 16000000
namespace Go.Proofs.Tryz
open Go.Vg

/-! what comes in is no longer than a slice can be -/
theorem Spec.pre {P : Program} {C : Prop} {f : FuncId} {args : List AV} {m : Mem} {Q : AV → Mem → Prop} (hC : ∀ X w ρ vs, Rvals X w ρ args vs → C) (h : C → Go.Vg.Spec P f args m Q) : Go.Vg.Spec P f args m Q := fun X w ρ vs hi hr => h (hC X w ρ vs hr) X w ρ vs hi hr
theorem ints_len {X : Nat → Prop} {w : World} {ρ : Rho} {l : List Int} {v : Value} (h : R X w ρ (.ints l) v) : l.length ≤ 9223372036854775807 := by
  obtain ⟨A, c, _, h1, h2, _⟩ := h
  rw [List.length_map] at h1
  unfold maxLen at h2
  omega
structure Ln (s : St) : Prop where
  ts : s.ts.length ≤ 9223372036854775807
  pp : s.pp.length ≤ 9223372036854775807
  pl : s.pl.length ≤ 9223372036854775807
theorem st_len {X : Nat → Prop} {w : World} {ρ : Rho} {s : St} {v : Value} (h : R X w ρ (stA s) v) : Ln s := by
  obtain ⟨vs, _, v1, _, _, h1, v2, _, _, h2, v3, _, _, h3, _⟩ := h
  exact ⟨ints_len h1, ints_len h2, ints_len h3⟩
def awB (s : St) : Bool := decide (30 < (s.ts.length : Int)) || decide (30 < (s.pp.length : Int)) || decide (30 < (s.pl.length : Int))
theorem awB_Zs {s : St} (h : awB s = false) : Zs s := by
  unfold awB at h
  simp only [Bool.or_eq_false_iff, decide_eq_false_iff_not] at h
  exact ⟨by omega, by omega, by omega⟩
theorem Away_pure {s : St} (h : Ln s) : Pure Tryz.prog 14 [stA s] (.bool (awB s)) := away_pure s h.ts h.pp h.pl

end Go.Proofs.Tryz
set_option maxHeartbeats 16000000
namespace Go.Proofs.Tryz
open Go.Vg

/-! Check and Play -/
theorem Check_pure {r : Rm} (hz : Sz r) {s : St} (hs : Zs s) (l : List Tk) (hl : l.length ≤ 100000) : Pure Tryz.prog 32 [rmA r, stA s, .lst 3 (l.map tkA)] (ckA r s l) := by
  have hok := okL_tk 0 l
  unfold ckA
  by_cases h1 : begE r s = 0
  · obtain ⟨hb0, hb1⟩ := begE_zero h1
    obtain ⟨hv, hs2, hch⟩ := cs_zero hb1
    have hx := lsB_ok hv hs2
    have c0 := begin_spec hz hs h1
    have c1 := check_spec hz hv hch (bg_SV hb0) hx l hl (a2 := ⟨0, .row 1 []⟩) trivial trivial
    rw [if_pos h1]
    generalize ckR r (bgS r) s.pl l (lsB r s) = u at *
    generalize ckF r (bgS r) s.pl l (lsB r s) = y at *
    unfold begM at c0
    unfold lsB at c1
    simp only at c1
    generalize bgS r = f at *
    generalize l.map tkA = TA at *
    unfold rmA rmC at *
    unfold ckM at c1
    unfold stA at *
    (refine Spec.bd 0 Tryz.func32 Tryz.results32 Tryz.ntmps32 ?_; simp only [entry, zipArgs, Nat.reduceAdd])
    ((refine x_pre @hok ?_); (iterate 4 (refine x_nr @hok ?_)); (refine x_nil @hok ?_))
    (refine x_fzP @hok (slq 3) ?_)
    (refine x_fzP @hok (slq 4) ?_)
    (refine Wp.vacs 1 ?_; (try simp only [List.replicate_succ, List.replicate_zero, List.cons_append, List.nil_append]))
    (refine x_go @hok ?_)
    (apply Run.freshE (he := (Enters.of Tryz.func46 rfl rfl)); (simp only [push_cast, seval, hok] <;> first | exact rfl | assumption); (exact x_ev @hok); (exact c0); ((exact x_cl @hok)); (exact x_ev @hok); (exact x_ev @hok); dsimp only [S.put, optG])
    (refine x_gg @hok ?_)
    (apply Run.spec (he := (Enters.of Tryz.func71 rfl rfl)); exact rfl; (simp only [push_cast, seval, hok] <;> first | exact rfl | assumption); (exact x_ev @hok); (exact c1); (rintro _ _ ⟨rfl, rfl⟩; dsimp only [Go.Vg.S.put, optG]))
    (refine x_gg @hok ?_)
    (first | exact x_ret @hok | refine x_retZ @hok ?_)
  · have e2 : decide (begE r s = 0) = false := decide_eq_false h1
    have c0 := begin_err hz hs h1
    rw [if_neg h1]
    generalize begE r s = e at *
    generalize l.map tkA = TA at *
    unfold rmA rmC at *
    unfold stA at *
    (refine Spec.bd 0 Tryz.func32 Tryz.results32 Tryz.ntmps32 ?_; simp only [entry, zipArgs, Nat.reduceAdd])
    ((refine x_pre (zc @hok (zc @e2 @Bool.not_false)) ?_); (iterate 4 (refine x_nr (zc @hok (zc @e2 @Bool.not_false)) ?_)); (refine x_nil (zc @hok (zc @e2 @Bool.not_false)) ?_))
    (refine x_fzP (zc @hok (zc @e2 @Bool.not_false)) (slq 3) ?_)
    (refine x_fzP (zc @hok (zc @e2 @Bool.not_false)) (slq 4) ?_)
    (refine x_go (zc @hok (zc @e2 @Bool.not_false)) ?_)
    (apply Run.pureFP; (exact x_ev (zc @hok (zc @e2 @Bool.not_false))); (exact (Enters.of Tryz.func46 rfl rfl)); (exact c0); (exact x_al (zc @hok (zc @e2 @Bool.not_false))); (try dsimp only [putA, optG]))
    (refine x_gg (zc @hok (zc @e2 @Bool.not_false)) ?_)
    (first | exact x_ret (zc @hok (zc @e2 @Bool.not_false)) | refine x_retZ (zc @hok (zc @e2 @Bool.not_false)) ?_)
theorem Play_pure {r : Rm} (hz : Sz r) {s : St} (hs : Zs s) (l : List Tk) (hl : l.length ≤ 100000) : Pure Tryz.prog 35 [rmA r, stA s, .lst 3 (l.map tkA)] (plA r s l) := by
  have hok := okL_tk 0 l
  unfold plA
  by_cases h1 : begE r s = 0
  · obtain ⟨hb0, hb1⟩ := begE_zero h1
    obtain ⟨hv, hs2, hch⟩ := cs_zero hb1
    have hx := lsB_ok hv hs2
    have c0 := begin_spec hz hs h1
    have c1 := check_spec hz hv hch (bg_SV hb0) hx l hl (a2 := ⟨0, .row 3 [stN]⟩) (by simp [Kind.ok, okL, AV.ok]) (by simp [Kind.ok, okL, AV.ok])
    rw [if_pos h1]
    have hck := ckL_ok hv (bg_SV hb0) l hx
    have hfl : (ckR r (bgS r) s.pl l (lsB r s)).2 = 0 → ckF r (bgS r) s.pl l (lsB r s) = ckL r (bgS r) s.pl l (lsB r s) := fun h => by
      unfold ckF
      rw [if_neg (by have := (ckR_ok h).1; omega)]
    have hq1 : (ckL r (bgS r) s.pl l (lsB r s)).ts.length = s.ts.length := by have h1 : _ = _ := hck.1.ts; have h2 := hs2.ts; rw [h2]; exact h1
    have hq2 : (ckL r (bgS r) s.pl l (lsB r s)).pp.length = s.pp.length := by have h1 : _ = _ := hck.1.pp; have h2 := hs2.pp; rw [h2]; exact h1
    generalize ckL r (bgS r) s.pl l (lsB r s) = z at *
    generalize ckR r (bgS r) s.pl l (lsB r s) = u at *
    generalize ckF r (bgS r) s.pl l (lsB r s) = y at *
    obtain ⟨u1, u2⟩ := u
    unfold begM at c0
    unfold lsB at c1
    simp only at c1 hfl
    refine Spec.frz ?_
    by_cases h2 : u2 = 0
    · obtain rfl := hfl h2
      subst h2
      rw [if_pos rfl]
      unfold sdS
      generalize bgS r = f at *
      generalize l.map tkA = TA at *
      unfold rmA rmC at *
      unfold ckM at c1
      unfold stA at *
      (refine Spec.of_bodyA Tryz.func35 rfl (by rw [Tryz.ntmps35]; simp) ?_; rw [Tryz.results35, Tryz.ntmps35]; simp only [entry, zipArgs, Nat.reduceAdd])
      ((refine x_pre @hok ?_); (iterate 4 (refine x_nr @hok ?_)); (refine x_nil @hok ?_))
      (refine x_fzP @hok (slq 3) ?_)
      (refine x_fzP @hok (slq 4) ?_)
      (refine x_go @hok ?_)
      (apply Run.freshE (he := (Enters.of Tryz.func46 rfl rfl)); (simp only [push_cast, seval, hok] <;> first | exact rfl | assumption); (exact x_ev @hok); (exact c0); ((exact x_cl @hok)); (exact x_ev @hok); (exact x_ev @hok); dsimp only [S.put, optG])
      (refine x_gg @hok ?_)
      (apply Run.spec (he := (Enters.of Tryz.func71 rfl rfl)); exact rfl; (simp only [push_cast, seval, hok] <;> first | exact rfl | assumption); (exact x_ev @hok); (exact c1); (rintro _ _ ⟨rfl, rfl⟩; dsimp only [Go.Vg.S.put, optG]))
      (refine x_gg @hok ?_)
      (first | exact x_retA @hok | refine x_retAZ @hok ?_)
      exact Vw.tup (.cons (Vw.agg (.cons (Vw.ointsR rfl hq1.symm) (.cons (Vw.ointsR rfl hq2.symm) (.cons (Vw.ointsR rfl rfl) .nil)))) (.cons (Vw.self trivial) .nil))
    · have e2 : decide (u2 = 0) = false := decide_eq_false h2
      rw [if_neg h2]
      generalize bgS r = f at *
      generalize l.map tkA = TA at *
      unfold rmA rmC at *
      unfold ckM at c1
      unfold stA at *
      (refine Spec.of_bodyA Tryz.func35 rfl (by rw [Tryz.ntmps35]; simp) ?_; rw [Tryz.results35, Tryz.ntmps35]; simp only [entry, zipArgs, Nat.reduceAdd])
      ((refine x_pre (zc @hok (zc @e2 @Bool.not_false)) ?_); (iterate 4 (refine x_nr (zc @hok (zc @e2 @Bool.not_false)) ?_)); (refine x_nil (zc @hok (zc @e2 @Bool.not_false)) ?_))
      (refine x_fzP (zc @hok (zc @e2 @Bool.not_false)) (slq 3) ?_)
      (refine x_fzP (zc @hok (zc @e2 @Bool.not_false)) (slq 4) ?_)
      (refine x_go (zc @hok (zc @e2 @Bool.not_false)) ?_)
      (apply Run.freshE (he := (Enters.of Tryz.func46 rfl rfl)); (simp only [push_cast, seval, hok, e2, Bool.not_false] <;> first | exact rfl | assumption); (exact x_ev (zc @hok (zc @e2 @Bool.not_false))); (exact c0); ((exact x_cl (zc @hok (zc @e2 @Bool.not_false)))); (exact x_ev (zc @hok (zc @e2 @Bool.not_false))); (exact x_ev (zc @hok (zc @e2 @Bool.not_false))); dsimp only [S.put, optG])
      (refine x_gg (zc @hok (zc @e2 @Bool.not_false)) ?_)
      (apply Run.spec (he := (Enters.of Tryz.func71 rfl rfl)); exact rfl; (simp only [push_cast, seval, hok, e2, Bool.not_false] <;> first | exact rfl | assumption); (exact x_ev (zc @hok (zc @e2 @Bool.not_false))); (exact c1); (rintro _ _ ⟨rfl, rfl⟩; dsimp only [Go.Vg.S.put, optG]))
      (refine x_gg (zc @hok (zc @e2 @Bool.not_false)) ?_)
      (first | exact x_retA (zc @hok (zc @e2 @Bool.not_false)) | refine x_retAZ (zc @hok (zc @e2 @Bool.not_false)) ?_)
      exact Vw.self (by simp [AV.ok, okL])
  · have e2 : decide (begE r s = 0) = false := decide_eq_false h1
    have c0 := begin_err hz hs h1
    rw [if_neg h1]
    generalize begE r s = e at *
    generalize l.map tkA = TA at *
    unfold rmA rmC at *
    unfold stA at *
    (refine Spec.bd 0 Tryz.func35 Tryz.results35 Tryz.ntmps35 ?_; simp only [entry, zipArgs, Nat.reduceAdd])
    ((refine x_pre (zc @hok (zc @e2 @Bool.not_false)) ?_); (iterate 4 (refine x_nr (zc @hok (zc @e2 @Bool.not_false)) ?_)); (refine x_nil (zc @hok (zc @e2 @Bool.not_false)) ?_))
    (refine x_fzP (zc @hok (zc @e2 @Bool.not_false)) (slq 3) ?_)
    (refine x_fzP (zc @hok (zc @e2 @Bool.not_false)) (slq 4) ?_)
    (refine x_go (zc @hok (zc @e2 @Bool.not_false)) ?_)
    (apply Run.pureFP; (exact x_ev (zc @hok (zc @e2 @Bool.not_false))); (exact (Enters.of Tryz.func46 rfl rfl)); (exact c0); (exact x_al (zc @hok (zc @e2 @Bool.not_false))); (try dsimp only [putA, optG]))
    (refine x_gg (zc @hok (zc @e2 @Bool.not_false)) ?_)
    (first | exact x_ret (zc @hok (zc @e2 @Bool.not_false)) | refine x_retZ (zc @hok (zc @e2 @Bool.not_false)) ?_)
end Go.Proofs.Tryz
set_option maxHeartbeats 16000000
namespace Go.Proofs.Tryz
open Go.Vg

theorem copyTasks_pure (c : List Tk) (hc : c.length ≤ 100000) : Pure Tryz.prog 33 [.lst 3 (c.map tkA)] (.lst 3 (c.map tkA)) := by
  (refine Spec.bd 0 Tryz.func33 Tryz.results33 Tryz.ntmps33 ?_; simp only [entry, zipArgs, Nat.reduceAdd])
  (refine x_go @okL_tk ?_)
  (apply Wp.freeze 2; (exact x_ev @okL_tk); (exact x_ev @okL_tk); (focus (try simp only [push_cast, seval, okL_tk]); (try (exact sT))); (focus (exact sT)))
  (first | exact x_ret @okL_tk | refine x_retZ @okL_tk ?_)
end Go.Proofs.Tryz
