/- A part of the proof of ResetChecks: contracts of functions, with plain laws that they need. -/
import Derived.Test.YtjhljokghikamaaGreatDoorVgR23J
set_option linter.all false
set_option maxHeartbeats 16000000
namespace Go.Proofs.Tryz
open Go.Vg

/-! keys of a map -/
theorem keyedStr : Maps.Keyed Tryz.prog 9 := kdB_ok (by kernel_rfl)
theorem goodStr {s : ByteArray} (h : s.size ≤ 1000) : goodK Tryz.prog 9 (.string s) = true := by
  simp [goodK, WideMaps.keyOf_string_mk (P := Tryz.prog) (k := 9) Tryz.underlying9 (s := s) (by unfold maxLen; omega)]
theorem sdK_size {r : Rm} (hv : RV r) {pl : List Int} {x : Sd} (hx : SdOk r pl x) : (sdK x).size ≤ 1000 := by
  have h1 := kyB_size x.at_ (x.ts ++ x.pp)
  have h2 : x.ts.length = r.ts.length := hx.1.ts
  have h3 : x.pp.length = r.pp.length := hx.1.pp
  have h4 := hv.ts
  have h5 := hv.pp
  rw [List.length_append] at h1
  unfold sdK
  omega
theorem goodL_mpK {r : Rm} (hv : RV r) {pl : List Int} {S : SL Sd} (h : allOk r pl S) : goodL Tryz.prog 9 (mpK sdK S) = true := by
  unfold mpK
  have hL : ∀ j ∈ List.range S.length, (sdK (sc S j)).size ≤ 1000 := fun j hj => sdK_size hv (h j (List.mem_range.1 hj))
  generalize List.range S.length = L at hL
  induction L with
  | nil => rfl
  | cons a l ih =>
    simp only [List.map_cons, goodL, goodStr (hL a (by simp))]
    exact ih fun j hj => hL j (by simp [hj])
theorem updL_new : ∀ (l : List (Value × AV)) (k : Value) (x : AV), findL l k = none → updL l k x = l ++ [(k, x)]
  | [], k, x, _ => rfl
  | (k0, y) :: l, k, x, h => by
    simp only [findL, updL, List.cons_append] at h ⊢
    cases hb : eqKey k0 k with
    | true => rw [hb] at h; cases h
    | false => rw [hb] at h; simp only at h ⊢; rw [updL_new l k x h]

/-! Reverse, of an own slice behind others -/
theorem rev_swap {l : List Tk} {i : Nat} (hi : i < l.length) {A : List Tk} (hA : A = (List.range l.length).map fun k : Nat => if k < i ∨ l.length - 1 - k < i then l.getD (l.length - 1 - k) tk0 else l.getD k tk0) (hlt : i < l.length - 1 - i) :
    (A.set i (A.getD (l.length - 1 - i) tk0)).set (l.length - 1 - i) (A.getD i tk0) = (List.range l.length).map fun k : Nat => if k < i + 1 ∨ l.length - 1 - k < i + 1 then l.getD (l.length - 1 - k) tk0 else l.getD k tk0 := by
  have hAl : A.length = l.length := by rw [hA]; simp
  have hAg : ∀ k, k < l.length → A.getD k tk0 = if k < i ∨ l.length - 1 - k < i then l.getD (l.length - 1 - k) tk0 else l.getD k tk0 := fun k hk => by rw [hA]; simp [hk]
  apply List.ext_getElem
  · simp [hAl]
  · intro k h1 h2
    have hk : k < l.length := by simpa using h2
    have hA1 : A.getD i tk0 = l.getD i tk0 := by have := hAg i hi; rw [if_neg (by omega)] at this; exact this
    have hA2 : A.getD (l.length - 1 - i) tk0 = l.getD (l.length - 1 - i) tk0 := by have := hAg (l.length - 1 - i) (by omega); rw [if_neg (by omega)] at this; exact this
    simp only [List.getElem_set, hA1, hA2]
    have e3 : A[k]'(by omega) = A.getD k tk0 := by simp [show k < A.length by omega]
    have hA3 := hAg k hk
    rw [e3, hA3]
    simp only [List.getElem_map, List.getElem_range]
    by_cases q1 : l.length - 1 - i = k
    · rw [if_pos q1, if_pos (by omega), show l.length - 1 - k = i by omega]
    · rw [if_neg q1]
      by_cases q2 : i = k
      · rw [if_pos q2, if_pos (by omega), show l.length - 1 - k = l.length - 1 - i by omega]
      · rw [if_neg q2]
        by_cases q3 : k < i ∨ l.length - 1 - k < i
        · rw [if_pos q3, if_pos (by omega)]
        · rw [if_neg q3, if_neg (by omega)]
def rvN (l : List Tk) (i : Nat) : List Tk := (List.range l.length).map fun k : Nat => if k < i ∨ l.length - 1 - k < i then l.getD (l.length - 1 - k) tk0 else l.getD k tk0
theorem rvN_len (l : List Tk) (i : Nat) : (rvN l i).length = l.length := by simp [rvN]
theorem rvN_zero (l : List Tk) : rvN l 0 = l := by
  apply List.ext_getElem
  · simp [rvN]
  · intro k h1 h2
    simp [rvN, h2]
theorem rvN_all (l : List Tk) {i : Nat} (h : l.length - 1 - i ≤ i) : rvN l i = l.reverse := by
  apply List.ext_getElem
  · simp [rvN]
  · intro k h1 h2
    have hk : k < l.length := by simpa using h2
    simp only [rvN, List.getElem_map, List.getElem_range, List.getElem_reverse]
    by_cases q : k < i ∨ l.length - 1 - k < i
    · rw [if_pos q]; simp [show l.length - 1 - k < l.length by omega]
    · rw [if_neg q]
      have : l.length - 1 - k = k := by omega
      simp [this, hk]
theorem rvN_succ (l : List Tk) {i : Nat} (h : i < l.length - 1 - i) : ((rvN l i).set i ((rvN l i).getD (l.length - 1 - i) tk0)).set (l.length - 1 - i) ((rvN l i).getD i tk0) = rvN l (i + 1) := rev_swap (by omega) rfl h
theorem getD_tk {l : List Tk} {i : Nat} (d : AV) (h : i < l.length) : (l.map tkA).getD i d = tkA (l.getD i tk0) := getD_mapE tkA l tk0 h
theorem rev_spec {a0 a1 a2 a3 a4 a5 a6 a7 a8 a9 : Ent} (v : Nat) (l : List Tk) (hl : l.length ≤ 100000) : Go.Vg.Spec Tryz.prog 55 [.osl 10 v 0 l.length] [a0, a1, a2, a3, a4, a5, a6, a7, a8, a9, ⟨v, .row 3 (l.map tkA)⟩] (fun x m' => x = .tup [] ∧ m' = [a0, a1, a2, a3, a4, a5, a6, a7, a8, a9, ⟨v, .row 3 (l.reverse.map tkA)⟩]) := by
  (refine Spec.of_bodyA Tryz.func55 rfl (by rw [Tryz.ntmps55]; simp) ?_; rw [Tryz.results55, Tryz.ntmps55]; simp only [entry, zipArgs, Nat.reduceAdd])
  (refine w_go ?_)
  refine Wp.loop (fun (k : Nat) => { t := [(0, .osl 10 v 0 l.length), (2, .int k), (3, .int ((l.length : Int) - 1 - k))], m := [a0, a1, a2, a3, a4, a5, a6, a7, a8, a9, ⟨v, .row 3 ((rvN l k).map tkA)⟩], n := 28 }) (fun k => k ≤ l.length) (fun k => l.length - k) 0 ?_ ?_ ?_
  · (refine Le.of ?_ ?_ rfl rfl <;> (try simp only [push_cast, seval]) <;> (try (with_reducible rfl)))
    all_goals first
      | (rw [rvN_zero]; done)
      | rfl
      | simp
  · simp
  · intro k hk
    (refine w_go ?_)
    (apply Wp.cond; (exact w_ev))
    · intro hc
      have hc : (k : Int) < (l.length : Int) - 1 - k := by simpa using hc
      have hst := rvN_succ l (i := k) (by omega)
      have hul := rvN_len l k
      obtain ⟨j, hj⟩ : ∃ j : Nat, l.length - 1 - k = j := ⟨_, rfl⟩
      have hj2 : (l.length : Int) - 1 - (k : Int) = (j : Int) := by omega
      rw [hj] at hst
      rw [hj2]
      generalize rvN l k = U at hst hul
      have g1 := fun d => getD_tk (l := U) (i := k) d (by omega)
      have g2 := fun d => getD_tk (l := U) (i := j) d (by omega)
      generalize hx : U.getD k tk0 = x at hst g1
      generalize hy : U.getD j tk0 = y at hst g2
      have hss : ∀ (l : List Tk) (i : Nat) (x : Tk), (l.map tkA).set i (.agg [.int x.kd, .int x.nu, .int x.ar]) = (l.set i x).map tkA := fun l i x => by rw [List.map_set]; rfl
      have hjl : j < U.length := by omega
      have g3 := fun d => getD_tk (l := U.set k y) (i := j) d (by rw [List.length_set]; omega)
      (refine x_go (zc @g1 (zc @g2 (zc @g3 (zc @drpS (zc @drpZ (zc @hss (zc @tkA.eq_1 (zc @hul (zc @lenMp @lenSt))))))))) ?_)
      (apply Wp.runW 13 15 (fun _ => [a0, a1, a2, a3, a4, a5, a6, a7, a8, a9, ⟨v, .row 3 ((U.set k y).map tkA)⟩]) mixed; (dsimp only [List.map] <;> exact rfl); exact rfl; kernel_rfl; kernel_rfl; (dsimp only; ((repeat (refine x_wn (zc @g1 (zc @g2 (zc @g3 (zc @drpS (zc @drpZ (zc @hss (zc @tkA.eq_1 (zc @hul (zc @lenMp @lenSt))))))))) ?_)); (refine x_we (zc @g1 (zc @g2 (zc @g3 (zc @drpS (zc @drpZ (zc @hss (zc @tkA.eq_1 (zc @hul (zc @lenMp @lenSt))))))))) ?_); (repeat (refine x_wn (zc @g1 (zc @g2 (zc @g3 (zc @drpS (zc @drpZ (zc @hss (zc @tkA.eq_1 (zc @hul (zc @lenMp @lenSt))))))))) ?_)); (refine x_we (zc @g1 (zc @g2 (zc @g3 (zc @drpS (zc @drpZ (zc @hss (zc @tkA.eq_1 (zc @hul (zc @lenMp @lenSt))))))))) ?_); (repeat (refine x_wn (zc @g1 (zc @g2 (zc @g3 (zc @drpS (zc @drpZ (zc @hss (zc @tkA.eq_1 (zc @hul (zc @lenMp @lenSt))))))))) ?_)); (refine x_w1 (zc @g1 (zc @g2 (zc @g3 (zc @drpS (zc @drpZ (zc @hss (zc @tkA.eq_1 (zc @hul (zc @lenMp @lenSt))))))))) ?_); (refine x_wn (zc @g1 (zc @g2 (zc @g3 (zc @drpS (zc @drpZ (zc @hss (zc @tkA.eq_1 (zc @hul (zc @lenMp @lenSt))))))))) ?_); (refine x_w2 (zc @g1 (zc @g2 (zc @g3 (zc @drpS (zc @drpZ (zc @hss (zc @tkA.eq_1 (zc @hul (zc @lenMp @lenSt))))))))) ?_)); exact AbW.nil))
      (refine x_go (zc @g1 (zc @g2 (zc @g3 (zc @drpS (zc @drpZ (zc @hss (zc @tkA.eq_1 (zc @hul (zc @lenMp @lenSt))))))))) ?_)
      refine ⟨k + 1, ?_, by omega, by omega⟩
      rw [← hst]
      (refine Le.of ?_ ?_ rfl rfl <;> (try simp only [push_cast, seval, g1, g2, g3, List.drop_succ_cons, List.drop_zero, hss, tkA, hul, List.length_map, List.length_set]) <;> (try (with_reducible rfl)))
      all_goals (try (congr 2; omega))
    · intro hc
      have hc : ¬ (k : Int) < (l.length : Int) - 1 - k := by simpa using hc
      have hall := rvN_all l (i := k) (by omega)
      rw [hall]
      (refine w_go ?_)
      apply leaveAN; exact rfl; (exact w_ev); ((exact w_cl)); (try simp only [push_cast, seval])
end Go.Proofs.Tryz
set_option maxHeartbeats 16000000
namespace Go.Proofs.Tryz
open Go.Vg

theorem do_spec {r : Rm} (hv : RV r) {f : St} (hf : SV r f) {s : St} (hs : SV r s) {a : Int} (ha : 0 ≤ a ∧ a ≤ 100) {t : Tk} (hc : canB r f s a t = true) {a0 a1 a2 a3 a4 a5 : Ent} (h0 : a0.kind.ok 10) (h1 : a1.kind.ok 10) (h2 : a2.kind.ok 10) (h3 : a3.kind.ok 10) (h4 : a4.kind.ok 10) (h5 : a5.kind.ok 10) (v6 v7 v8 v9 : Nat) :
    Go.Vg.Spec Tryz.prog 54 [.optr 6 v6 0 0, tkA t] (doM a0 a1 a2 a3 a4 a5 r f v6 v7 v8 v9 s.ts.length s.pp.length s.pl.length s a) (fun x m' => x = .tup [] ∧ m' = doM a0 a1 a2 a3 a4 a5 r f v6 v7 v8 v9 s.ts.length s.pp.length s.pl.length (doS r f s a t) (doA r a t)) := by
  obtain ⟨kd, nu, ar⟩ := t
  unfold canB at hc
  simp only at hc
  unfold doS doA tkA
  simp only
  have hps := hv.ps
  split at hc
  · rename_i hk
    subst hk
    simp only [show ¬((1 : Int) = 2) by omega, show ¬((1 : Int) = 3) by omega, if_false, if_true]
    unfold wkB wi at hc
    simp only [Bool.and_eq_true, Bool.or_eq_true, decide_eq_true_eq] at hc
    obtain ⟨⟨_, q1, q2⟩, q3⟩ := hc
    obtain ⟨n, rfl⟩ : ∃ n : Nat, nu = n := ⟨nu.toNat, by omega⟩
    simp only [Int.toNat_natCast] at *
    have hn : n < r.wy.length := by omega
    have hm := hv.wyv (r.wy.getD n wy0) (by rw [show r.wy.getD n wy0 = r.wy[n] by simp [hn]]; exact List.getElem_mem _)
    exact do_walk r f s a n ar hn ⟨by omega, by omega, ha⟩ h0 h1 h2 h3 h4 h5 v6 v7 v8 v9 _ _ _
  · rename_i hk1
    split at hc
    · rename_i hk
      subst hk
      simp only [show ¬((2 : Int) = 1) by omega, if_false, if_true]
      unfold tnB wi at hc
      simp only [Bool.and_eq_true, decide_eq_true_eq] at hc
      obtain ⟨⟨q1, q2⟩, _⟩ := hc
      obtain ⟨n, rfl⟩ : ∃ n : Nat, nu = n := ⟨nu.toNat, by omega⟩
      simp only [Int.toNat_natCast]
      exact do_turn r f s a n ar (by have := hs.ts; omega) h0 h1 h2 h3 h4 h5 v6 v7 v8 v9 _ _
    · rename_i hk2
      split at hc
      · rename_i hk
        subst hk
        simp only [show ¬((3 : Int) = 1) by omega, show ¬((3 : Int) = 2) by omega, if_false, if_true]
        unfold ptB wi at hc
        simp only [Bool.and_eq_true, decide_eq_true_eq] at hc
        obtain ⟨⟨⟨_, q1, q2⟩, _⟩, _⟩ := hc
        obtain ⟨n, rfl⟩ : ∃ n : Nat, nu = n := ⟨nu.toNat, by omega⟩
        simp only [Int.toNat_natCast]
        exact do_put r f s a n ar (by have := hs.pp; omega) (by have := hf.pp; omega) h0 h1 h2 h3 h4 h5 v6 v7 v8 v9 _ _
      · cases hc

/-! what Least answers -/
def ovB (f : St) (pl : List Int) (x : Sd) : Bool := decide (x.at_ = 0) && rsB f (sdS pl x)
def enN (f : St) (pl : List Int) (S : SL Sd) (n : Nat) : Option Nat := (List.range n).find? fun j => ovB f pl (sc S j)
def enV (f : St) (pl : List Int) (S : SL Sd) (n : Nat) : Int := match enN f pl S n with
  | some j => j
  | none => -1
def pth (S : SL Sd) : Nat → Nat → List Nat
  | 0, _ => []
  | n + 1, i => if i = 0 then [] else st' S i :: pth S n (sb S i)
def lsB (r : Rm) (s : St) : Sd := ⟨s.ts, s.pp, 0⟩
def lsR (r : Rm) (s : St) : Option (SL Sd) := srun (tkL r).length (nxR r (bgS r) s.pl) 4000 4001 0 [(lsB r s, 0, 0)]
def leT (r : Rm) (s : St) : Int × List Tk := match lsR r s with
  | none => (2, [])
  | some S => match enN (bgS r) s.pl S S.length with
    | none => (90, [])
    | some e => (0, ((pth S e e).map fun k => (tkL r).getD k tk0).reverse)
theorem enN_succ (f : St) (pl : List Int) (S : SL Sd) (n : Nat) : enN f pl S (n + 1) = match enN f pl S n with
    | some j => some j
    | none => if ovB f pl (sc S n) = true then some n else none := by
  unfold enN
  rw [List.range_succ, List.find?_append]
  cases (List.range n).find? fun j => ovB f pl (sc S j) with
  | some j => rfl
  | none =>
    simp only [Option.none_or, List.find?_cons, List.find?_nil]
    cases ovB f pl (sc S n) <;> rfl
theorem enN_old {f : St} {pl : List Int} {S S' : SL Sd} {n : Nat} (h : ∀ j, j < n → sc S' j = sc S j) : enN f pl S' n = enN f pl S n := by
  induction n with
  | zero => rfl
  | succ n ih => rw [enN_succ, enN_succ, ih fun j hj => h j (by omega), h n (by omega)]
theorem enN_lt {f : St} {pl : List Int} {S : SL Sd} {n j : Nat} (h : enN f pl S n = some j) : j < n ∧ ovB f pl (sc S j) = true := by
  unfold enN at h
  exact ⟨List.mem_range.1 (List.mem_of_find?_eq_some h), by simpa using List.find?_some h⟩
theorem sstep_old {R : Sd → Nat → Sd} {M : Nat} {S S' : SL Sd} {i k : Nat} (h : sstep R M S i k = some S') : ∀ j, j < S.length → S'.getD j (default, 0, 0) = S.getD j (default, 0, 0) := by
  intro j hj
  unfold sstep at h
  split at h
  · cases h; rfl
  · split at h
    · cases h
    · cases h; exact sc_old hj
theorem srow_old {R : Sd → Nat → Sd} {M : Nat} {S : SL Sd} {i : Nat} : ∀ (k : Nat) {S' : SL Sd}, srow R M S i k = some S' → ∀ j, j < S.length → S'.getD j (default, 0, 0) = S.getD j (default, 0, 0)
  | 0, S', h, j, hj => by cases h; rfl
  | k + 1, S', h, j, hj => by
    unfold srow at h
    obtain ⟨S1, q1, q2⟩ := Option.bind_eq_some_iff.1 h
    rw [sstep_old q2 j (by have := (srow_len R k q1).1; omega), srow_old k q1 j hj]
theorem srow_none {R : Sd → Nat → Sd} {M : Nat} {S : SL Sd} {i : Nat} {k : Nat} (h : srow R M S i k = none) : ∀ n, srow R M S i (k + n) = none
  | 0 => h
  | n + 1 => by
    show (srow R M S i (k + n)).bind _ = none
    rw [srow_none h n]; rfl
end Go.Proofs.Tryz
set_option maxHeartbeats 64000000
namespace Go.Proofs.Tryz
open Go.Vg

theorem enV_succ (f : St) (pl : List Int) (S : SL Sd) (i : Nat) : enV f pl S (i + 1) = if (decide (enV f pl S i < 0) && decide ((sc S i).at_ = 0) && rsB f (sdS pl (sc S i))) = true then (i : Int) else enV f pl S i := by
  unfold enV
  rw [enN_succ]
  cases h : enN f pl S i with
  | some j =>
    have e : decide ((j : Int) < 0) = false := decide_eq_false (by omega)
    simp [e]
  | none =>
    simp only [show decide ((-1 : Int) < 0) = true from rfl, Bool.true_and]
    unfold ovB
    cases hb : (decide ((sc S i).at_ = 0) && rsB f (sdS pl (sc S i))) <;> simp
structure G5 where
  v5 : Nat
  v6 : Nat
  v7 : Nat
  v8 : Nat
  v9 : Nat
  k5 : Kind
  k6 : Kind
  k7 : Kind
  k8 : Kind
  k9 : Kind
abbrev kX (r : Rm) (f : St) (pl : List Int) (x : Sd) : List AV := [.strs r.ps, .lst 4 (r.ts.map thA), .lst 3 (r.pp.map ppA), .lst 3 (r.wy.map wyA), .lst 8 (r.ac.map acA), .lst 3 (r.au.map auA), .int r.n, .lst 3 (r.goal.map ltA), .ints f.ts, .ints f.pp, .ints f.pl, .ints x.ts, .ints x.pp, .ints pl, .int x.at_]
abbrev lsM (r : Rm) (f : St) (pl : List Int) (S : SL Sd) (e4 : Ent) (g : G5) : Mem := [⟨1, .row 8 []⟩, ⟨1, .row 3 []⟩, ⟨S.length, .row 19 (stdL r f pl S)⟩, ⟨1, .mp (mpK sdK S)⟩, e4, ⟨g.v5, g.k5⟩, ⟨g.v6, g.k6⟩, ⟨g.v7, g.k7⟩, ⟨g.v8, g.k8⟩, ⟨g.v9, g.k9⟩]
theorem okL_kX (k : Nat) (r : Rm) (f : St) (pl : List Int) (x : Sd) : okL k [AV.agg (kX r f pl x)] := by simp [okL, AV.ok, okL_str, okL_th, okL_pp, okL_wy, okL_ac, okL_au, okL_lt, okL_mapInt]
theorem srow_succ (R : Sd → Nat → Sd) (M : Nat) (S : SL Sd) (i k : Nat) {S' : SL Sd} (h : srow R M S i k = some S') : srow R M S i (k + 1) = sstep R M S' i k := by
  show (srow R M S i k).bind _ = _
  rw [h]; rfl
theorem mpK_ok (S : SL Sd) (k : Nat) : okL k ((mpK sdK S).map (·.2)) := by
  unfold mpK
  generalize List.range S.length = L
  induction L with
  | nil => trivial
  | cons a l ih => exact ⟨trivial, ih⟩
theorem least_ok {r : Rm} (hz : Sz r) {s : St} (hs : Zs s) (h : begE r s = 0) : Pure Tryz.prog 16 [rmA r, stA s] (.tup [.lst 3 ((leT r s).2.map tkA), .int (leT r s).1]) := by
  obtain ⟨hb0, hb1⟩ := begE_zero h
  obtain ⟨hv, hs2, hch⟩ := cs_zero hb1
  have hf := bg_SV hb0
  have c0 := begin_pure hz hs h
  have c1 := tasks_pure hv
  have hx0 : SdOk r s.pl (lsB r s) := ⟨hs2, Int.le_refl _, by have := hv.ps; simp only [lsB]; omega⟩
  have hkp : ∀ x : Sd, SdOk r s.pl x → Pure Tryz.prog 48 [.agg (kX r (bgS r) s.pl x)] (.str (sdK x)) := fun x hx => by
    obtain ⟨q1, q2⟩ := sd_inR hv hx
    have z := SV.zs hz hv hx.1
    exact key_pure r (bgS r) ⟨x.ts, x.pp, s.pl⟩ x.at_ q1 ⟨z.ts, z.pp⟩ q2
  have hrs : ∀ x : Sd, SdOk r s.pl x → Pure Tryz.prog 51 [.ref (kX r (bgS r) s.pl x) 0] (.bool (rsB (bgS r) (sdS s.pl x))) := fun x hx => reset_pure r (bgS r) ⟨x.ts, x.pp, s.pl⟩ (SV.zs hz hv hx.1) x.at_
  have hcn : ∀ x : Sd, SdOk r s.pl x → ∀ t, Pure Tryz.prog 52 [.ref (kX r (bgS r) s.pl x) 0, tkA t] (.bool (canB r (bgS r) (sdS s.pl x) x.at_ t)) := fun x hx t => can_pure hz (bgS r) (s := ⟨x.ts, x.pp, s.pl⟩) (SV.zs hz hv hx.1) (by unfold csE; rw [orE_ok hch, if_pos (show csB r ⟨x.ts, x.pp, s.pl⟩ = true from csB_SV.2 hx.1)]) hf.pp (SV.zs hz hv hf).ts x.at_ t
  have hcp : ∀ x : Sd, SdOk r s.pl x → _ := fun x hx => copied_spec ⟨x.ts, x.pp, s.pl⟩ (SV.zs hz hv hx.1)
  have hk0 := hkp _ hx0
  have htl : (tkL r).length ≤ 200 := by
    have := tkT_len r.ts (fun x hx => (hv.tsv x hx).2.1.2) r.ts.length (Nat.le_refl _)
    have := hv.wy; have := hv.ts; have := hv.pp
    unfold tkL
    simp only [List.length_append, tkW_len, tkP_len]
    omega
  refine Spec.frz ?_
  obtain ⟨tot, htot⟩ : ∃ tot, lsR r s = tot := ⟨_, rfl⟩
  unfold leT
  rw [htot]
  unfold lsR at htot
  have hsq : ∀ S' : SL Sd, tot = some S' → ∀ k, 0 < k → k < S'.length → sb S' k < k := fun S' e k q1 q2 => by
    subst e
    obtain ⟨Q', z1, z2⟩ := srun_is (nxR r (bgS r) s.pl) 4001 0 _ S' _ (SQ.start (lsB r s)) (BI.start (T := (tkL r).length) (R := nxR r (bgS r) s.pl) (lsB r s)) (by simp) htot
    exact (z1.b k q1 q2).1
  have hS0 : stdL r (bgS r) s.pl [(lsB r s, 0, 0)] = [elA r (bgS r) s.pl 0 (lsB r s, 0, 0)] := rfl
  have hM0 : mpK sdK [(lsB r s, 0, 0)] = [(.string (sdK (lsB r s)), .int 0)] := rfl
  have hA0 : allOk r s.pl [(lsB r s, 0, 0)] := fun j hj => by
    have : j = 0 := by simpa using hj
    subst this; exact hx0
  have hkB : Maps.Keyed Tryz.prog 9 = True := eq_true keyedStr
  have hek := fun x : Sd => eqKey_str (sdK x) (sdK x)
  have hgk : ∀ x : Sd, SdOk r s.pl x → goodK Tryz.prog 9 (.string (sdK x)) = true := fun x hx => goodStr (sdK_size hv hx)
  have hgl : ∀ S : SL Sd, allOk r s.pl S → goodL Tryz.prog 9 (mpK sdK S) = true := fun S h => goodL_mpK hv h
  have hgk0 := goodStr (sdK_size hv hx0)
  generalize hfE : bgS r = f at *
  unfold rmA rmC at *
  try unfold stA at *
  (refine Spec.of_bodyA Tryz.func16 rfl (by rw [Tryz.ntmps16]; simp) ?_; rw [Tryz.results16, Tryz.ntmps16]; simp only [entry, zipArgs, Nat.reduceAdd])
  ((refine x_pre @okL_tk ?_); (iterate 4 (refine x_nr @okL_tk ?_)); (refine x_nil @okL_tk ?_))
  (refine x_fzP @okL_tk (slq 2) ?_)
  (refine x_fzP @okL_tk (slq 3) ?_)
  (refine Wp.vacs 8 ?_; (try simp only [List.replicate_succ, List.replicate_zero, List.cons_append, List.nil_append]))
  (refine x_go @okL_tk ?_)
  (apply Run.pureFP; (exact x_ev @okL_tk); (exact (Enters.of Tryz.func46 rfl rfl)); (exact c0); (exact x_al @okL_tk); (try dsimp only [putA, optG]))
  (refine x_gg @okL_tk ?_)
  (apply Run.pureFP; (exact x_ev @okL_tk); (exact (Enters.of Tryz.func47 rfl rfl)); (exact c1); (exact x_al @okL_tk); (try dsimp only [putA, optG]))
  (refine x_nr @okL_tk ?_)
  (apply Run.nil; dsimp only [sQ, tQ, bQ])
  ((refine x_pre @okL_tk ?_); (iterate 1 (refine x_nr @okL_tk ?_)); (refine x_nil @okL_tk ?_))
  (repeat (first | apply Wp.seq | apply Wp.block | (apply Wp.skip; dsimp only [sQ, tQ, bQ])))
  (refine x_beg @okL_tk ?_)
  (iterate 5 (refine x_nr @okL_tk ?_))
  (apply Run.alcAt 2; (exact x_ev @okL_tk); ((try simp only [push_cast, seval, okL_tk]) <;> exact sT); exact rfl; (try simp only [push_cast, seval, okL_tk]))
  (repeat (refine x_nr @okL_tk ?_))
  (apply Run.nil; dsimp only [sQ, tQ, bQ])
  (repeat (first | apply Wp.seq | apply Wp.block | (apply Wp.skip; dsimp only [sQ, tQ, bQ])))
  (refine x_beg @okL_tk ?_)
  (apply Run.mapAt (3); (first | ((exact x_ev @okL_tk)) | exact rfl); (try simp only [push_cast, seval, okL_tk]))
  (repeat (refine x_nr @okL_tk ?_))
  (apply Run.pureFP; (exact x_ev @okL_tk); (exact (Enters.of Tryz.func48 rfl rfl)); (exact hk0); (exact x_al @okL_tk); (try dsimp only [putA, optG]))
  (refine x_go (zc @okL_tk (zc @hkB (zc @hgk0 @hek))) ?_)
  generalize hTk : (tkL r).map tkA = TA at *
  generalize s.pl = pl at *
  refine Wp.loop (fun (q : Nat × SL Sd × (Nat × Kind) × G5) => { t := [(8, .lst 3 TA), (9, .clo 48 []), (10, .osl 2 q.2.1.length 0 q.2.1.length), (11, .omap 3 1), (12, .int (enV f pl q.2.1 q.1)), (13, .int q.1)], m := lsM r f pl q.2.1 ⟨q.2.2.1.1, q.2.2.1.2⟩ q.2.2.2, n := 131 })
    (fun q => q.1 ≤ q.2.1.length ∧ q.2.1.length ≤ 4000 ∧ allOk r pl q.2.1 ∧ 0 < q.2.1.length ∧ srun (tkL r).length (nxR r f pl) 4000 (4001 - q.1) q.1 q.2.1 = tot) (fun q => 4001 - q.1) (0, [(lsB r s, 0, 0)], (0, .row 1 []), ⟨0, 0, 0, 0, 0, .row 1 [], .row 1 [], .row 1 [], .row 1 [], .row 1 []⟩) ?_ ?_ ?_
  · simp only [hS0, hM0]
    (refine Le.of ?_ ?_ rfl rfl <;> (try simp only [push_cast, seval, okL_tk, hkB, hgk0, hek]) <;> (try (with_reducible rfl)))
    all_goals rfl
  · exact ⟨by simp, by simp, hA0, by simp, htot⟩
  · clear hS0 hM0 hgk0 hA0 hk0 c0 c1 htot
    rintro ⟨i, S, ⟨v4, k4⟩, g⟩ ⟨hi1, hi2, hi3, hi4, hi5⟩
    simp only at hi1 hi2 hi3 hi4 hi5
    (refine x_go (zc @okL_tk (zc @hkB @hek)) ?_)
    (apply Wp.cond; (exact x_ev (zc @okL_tk (zc @hkB @hek))))
    · (intro hc; first | replace hc := bT hc | skip)
      have hrun : (srow (nxR r f pl) 4000 S i (tkL r).length).bind (srun (tkL r).length (nxR r f pl) 4000 (4001 - (i + 1)) (i + 1)) = tot := by
        rw [← hi5, show 4001 - i = (4001 - (i + 1)) + 1 by omega]
        show _ = if i < S.length then _ else _
        rw [if_pos hc]
      have hev := enV_succ f pl S i
      have hx := hi3 i hc
      have hgd := fun d => stdL_getD (r := r) (f := f) (pl := pl) (S := S) d hc
      have hscp : sc S i = (S.getD i (default, 0, 0)).1 := rfl
      rw [hscp] at hx hev
      generalize hp : S.getD i (default, 0, 0) = p at hx hgd hev hscp
      have c3 := hrs p.1 hx
      generalize hrb : rsB f (sdS pl p.1) = rb at c3 hev
      have hlen := stdL_len r f pl S
      (refine x_gs (zc @okL_tk (zc @hkB (zc @hek (zc @hgd (zc @elA.eq_1 (zc @elC.eq_1 @hlen)))))) ?_)
      (apply Run.alcAt 4; (exact x_ev (zc @okL_tk (zc @hkB (zc @hek (zc @hgd (zc @elA.eq_1 (zc @elC.eq_1 @hlen))))))); ((try simp only [push_cast, seval, okL_tk, hkB, hek, hgd, elA, elC, hlen]) <;> exact sT); exact rfl; (try simp only [push_cast, seval, okL_tk, hkB, hek, hgd, elA, elC, hlen]))
      (refine x_go (zc @okL_tk (zc @hkB (zc @hek (zc @hgd (zc @elA.eq_1 (zc @elC.eq_1 @hlen)))))) ?_)
      (apply Run.pureP; (exact x_ev (zc @okL_tk (zc @hkB (zc @hek (zc @hgd (zc @elA.eq_1 (zc @elC.eq_1 @hlen))))))); (exact (Enters.of Tryz.func51 rfl rfl)); (exact c3); (exact x_al (zc @okL_tk (zc @hkB (zc @hek (zc @hgd (zc @elA.eq_1 (zc @elC.eq_1 @hlen))))))); (try dsimp only [putA, optG]))
      (refine x_go (zc @okL_tk (zc @hkB (zc @hek (zc @hgd (zc @elA.eq_1 (zc @elC.eq_1 @hlen)))))) ?_)
      refine Wp.meetS { t := [(8, .lst 3 TA), (9, .clo 48 []), (10, .osl 2 S.length 0 S.length), (11, .omap 3 1), (12, .int (enV f pl S (i + 1))), (13, .int i), (14, .optr 4 (v4 + 1) 0 0)], m := lsM r f pl S ⟨v4 + 1, .row 15 [.agg (kX r f pl p.1)]⟩ g, n := 131 } ?_ ?_
      · (apply Wp.cond; (exact x_ev (zc @okL_tk (zc @hkB (zc @hek (zc @hgd (zc @elA.eq_1 (zc @elC.eq_1 @hlen))))))))
        · intro h4
          rw [if_pos (by simpa using h4)] at hev
          (refine x_go (zc @okL_tk (zc @hkB (zc @hek (zc @hgd (zc @elA.eq_1 (zc @elC.eq_1 @hlen)))))) ?_)
          rw [hev]
          (refine Le.of ?_ ?_ rfl rfl <;> (try simp only [push_cast, seval, okL_tk, hkB, hek, hgd, elA, elC, hlen]) <;> (try (with_reducible rfl)))
        · intro h4
          rw [if_neg (by simpa using h4)] at hev
          (refine x_go (zc @okL_tk (zc @hkB (zc @hek (zc @hgd (zc @elA.eq_1 (zc @elC.eq_1 @hlen)))))) ?_)
          rw [hev]
          (refine Le.of ?_ ?_ rfl rfl <;> (try simp only [push_cast, seval, okL_tk, hkB, hek, hgd, elA, elC, hlen]) <;> (try (with_reducible rfl)))
      · (try dsimp only [sQ, tQ, bQ])
        intro s' hs'
        refine Wp.le hs' ?_
        clear hs' hev c3
        (refine x_go (zc @okL_tk (zc @hkB @hek)) ?_)
        have hTAl : TA.length = (tkL r).length := by rw [← hTk, List.length_map]
        have hpl2 : p.1.ts.length = r.ts.length ∧ p.1.pp.length = r.pp.length := ⟨hx.1.ts, hx.1.pp⟩
        refine Wp.loop (fun (q : Nat × SL Sd × G5) => { t := [(8, .lst 3 TA), (9, .clo 48 []), (10, .osl 2 q.2.1.length 0 q.2.1.length), (11, .omap 3 1), (12, .int (enV f pl S (i + 1))), (13, .int i), (14, .optr 4 (v4 + 1) 0 0), (68, .lst 3 TA), (69, .int (tkL r).length), (70, .int q.1)], m := lsM r f pl q.2.1 ⟨v4 + 1, .row 15 [.agg (kX r f pl p.1)]⟩ q.2.2, n := 131 })
          (fun q => q.1 ≤ (tkL r).length ∧ srow (nxR r f pl) 4000 S i q.1 = some q.2.1 ∧ q.2.1.length ≤ 4000 ∧ allOk r pl q.2.1) (fun q => (tkL r).length - q.1) (0, S, g) ?_ ?_ ?_
        · rw [← hTAl]
          (refine Le.of ?_ ?_ rfl rfl <;> (try simp only [push_cast, seval, okL_tk, hkB, hek]) <;> (try (with_reducible rfl)))
        · exact ⟨by simp, rfl, hi2, hi3⟩
        · rintro ⟨k, S', ⟨v5, v6, v7, v8, v9, k5, k6, k7, k8, k9⟩⟩ ⟨hk1, hk2, hk3, hk4⟩
          simp only at hk1 hk2 hk3 hk4
          (refine x_go (zc @okL_tk (zc @hkB @hek)) ?_)
          (apply Wp.cond; (exact x_ev (zc @okL_tk (zc @hkB @hek))))
          · intro hk5
            have hk5 : k < (tkL r).length := by simpa using hk5
            have hlen2 := stdL_len r f pl S'
            have hold := srow_old k hk2
            have hle := (srow_len _ k hk2).1
            have hsi : sc S' i = p.1 := by unfold sc; rw [hold i hc, hp]
            have hst := srow_succ (nxR r f pl) 4000 S i k hk2
            have htg : ∀ d, TA.getD k d = tkA ((tkL r).getD k tk0) := fun d => by rw [← hTk]; exact getD_tk d hk5
            have hnx : nxR r f pl p.1 k = if canB r f (sdS pl p.1) p.1.at_ ((tkL r).getD k tk0) = true then nxT r f pl p.1 ((tkL r).getD k tk0) else p.1 := rfl
            obtain ⟨t, ht⟩ : ∃ t, (tkL r).getD k tk0 = t := ⟨_, rfl⟩
            rw [ht] at hnx
            simp only [ht] at htg
            have c4 := hcn p.1 hx t
            unfold sstep at hst
            rw [hsi] at hst
            unfold tkA at c4
            cases hcb : canB r f (sdS pl p.1) p.1.at_ t with
            | false =>
              rw [hcb] at c4 hnx
              rw [if_neg (by simp)] at hnx
              rw [hnx, if_pos (sk_iff.2 ⟨i, by omega, hsi⟩)] at hst
              (refine x_gs (zc @okL_tk (zc @hkB (zc @hek (zc @htg (zc @tkA.eq_1 @hTAl))))) ?_)
              (apply Run.alcAt 5; (exact x_ev (zc @okL_tk (zc @hkB (zc @hek (zc @htg (zc @tkA.eq_1 @hTAl)))))); ((try simp only [push_cast, seval, okL_tk, hkB, hek, htg, tkA, hTAl]) <;> exact sT); exact rfl; (try simp only [push_cast, seval, okL_tk, hkB, hek, htg, tkA, hTAl]))
              (refine x_go (zc @okL_tk (zc @hkB (zc @hek (zc @htg (zc @tkA.eq_1 @hTAl))))) ?_)
              (apply Run.pureP; (exact x_ev (zc @okL_tk (zc @hkB (zc @hek (zc @htg (zc @tkA.eq_1 @hTAl)))))); (exact (Enters.of Tryz.func52 rfl rfl)); (exact c4); (exact x_al (zc @okL_tk (zc @hkB (zc @hek (zc @htg (zc @tkA.eq_1 @hTAl)))))); (try dsimp only [putA, optG]))
              (refine x_gg (zc @okL_tk (zc @hkB (zc @hek (zc @htg (zc @tkA.eq_1 @hTAl))))) ?_)
              refine ⟨(k + 1, S', ⟨v5 + 1, v6, v7, v8, v9, .row 3 [tkA t], k6, k7, k8, k9⟩), ?_, ⟨by simp only; omega, hst, hk3, hk4⟩, by simp only; omega⟩
              (refine Le.of ?_ ?_ rfl rfl <;> (try simp only [push_cast, seval, okL_tk, hkB, hek, htg, tkA, hTAl]) <;> (try (with_reducible rfl)))
            | true =>
              rw [hcb] at c4 hnx
              rw [if_pos rfl] at hnx
              rw [hnx] at hst
              have hy := nx_ok hv hf hx hcb
              have c5 := hcp p.1 hx
              have c6 := do_spec hv hf (s := sdS pl p.1) hx.1 (a := p.1.at_) ⟨hx.2.1, by have := hx.2.2; have := hv.ps; omega⟩ hcb (a0 := ⟨1, .row 8 []⟩) (a1 := ⟨1, .row 3 []⟩) (a2 := ⟨S'.length, .row 19 (stdL r f pl S')⟩) (a3 := ⟨1, .mp (mpK sdK S')⟩) (a4 := ⟨v4 + 1, .row 15 [.agg (kX r f pl p.1)]⟩) (a5 := ⟨v5 + 1, .row 3 [tkA t]⟩) trivial trivial (by show okL 10 _; rw [okL_std]; trivial) (mpK_ok S' 10) (okL_kX 10 r f pl p.1) (by simp [Kind.ok, okL, AV.ok, tkA]) (v6 + 1) (v7 + 1) (v8 + 1) (v9 + 1)
              rw [← nx_sdS, show doA r p.1.at_ t = (nxT r f pl p.1 t).at_ from rfl] at c6
              generalize nxT r f pl p.1 t = y at *
              have hyl : y.ts.length = p.1.ts.length ∧ y.pp.length = p.1.pp.length := ⟨hy.1.ts.trans hx.1.ts.symm, hy.1.pp.trans hx.1.pp.symm⟩
              unfold sdS at c6
              unfold stA at c5
              simp only at c5 c6
              unfold tkA at c6
              have c7 := hkp y hy
              have hfd := findL_mpK (K := sdK) (S := S') (c := y) fun j hj e => sd_inj hv (hk4 j hj) hy e
              (refine x_gs (zc @okL_tk (zc @hkB (zc @hek (zc @htg (zc @tkA.eq_1 (zc @hTAl @Bool.not_true)))))) ?_)
              (apply Run.alcAt 5; (exact x_ev (zc @okL_tk (zc @hkB (zc @hek (zc @htg (zc @tkA.eq_1 (zc @hTAl @Bool.not_true))))))); ((try simp only [push_cast, seval, okL_tk, hkB, hek, htg, tkA, hTAl, Bool.not_true]) <;> exact sT); exact rfl; (try simp only [push_cast, seval, okL_tk, hkB, hek, htg, tkA, hTAl, Bool.not_true]))
              (refine x_go (zc @okL_tk (zc @hkB (zc @hek (zc @htg (zc @tkA.eq_1 (zc @hTAl @Bool.not_true)))))) ?_)
              (apply Run.pureP; (exact x_ev (zc @okL_tk (zc @hkB (zc @hek (zc @htg (zc @tkA.eq_1 (zc @hTAl @Bool.not_true))))))); (exact (Enters.of Tryz.func52 rfl rfl)); (exact c4); (exact x_al (zc @okL_tk (zc @hkB (zc @hek (zc @htg (zc @tkA.eq_1 (zc @hTAl @Bool.not_true))))))); (try dsimp only [putA, optG]))
              (refine x_gq (zc @okL_tk (zc @hkB (zc @hek (zc @htg (zc @tkA.eq_1 (zc @hTAl @Bool.not_true)))))) ?_)
              (apply Run.alcAt 6; (exact x_ev (zc @okL_tk (zc @hkB (zc @hek (zc @htg (zc @tkA.eq_1 (zc @hTAl @Bool.not_true))))))); ((try simp only [push_cast, seval, okL_tk, hkB, hek, htg, tkA, hTAl, Bool.not_true]) <;> exact sT); exact rfl; (try simp only [push_cast, seval, okL_tk, hkB, hek, htg, tkA, hTAl, Bool.not_true]))
              (refine x_go (zc @okL_tk (zc @hkB (zc @hek (zc @htg (zc @tkA.eq_1 (zc @hTAl @Bool.not_true)))))) ?_)
              (apply Run.fresh3At 7 8 9; (exact x_ev (zc @okL_tk (zc @hkB (zc @hek (zc @htg (zc @tkA.eq_1 (zc @hTAl @Bool.not_true))))))); (exact (Enters.of Tryz.func53 rfl rfl)); (exact c5); (exact VwL.cons (x := .agg [.ints p.1.ts, .ints p.1.pp, .ints pl]) (Vw.self (by simp [AV.ok, okL, okL_mapInt])) VwL.nil); (refine ⟨?_, ?_, ?_⟩ <;> (simp only [push_cast, seval, okL_tk, hkB, hek, htg, tkA, hTAl, Bool.not_true] <;> first | trivial | (simp; done))); (exact ⟨rfl, rfl, rfl⟩); (exact ⟨by decide, by decide, by decide⟩); (try dsimp only [putA, set3, List.set_cons_succ, List.set_cons_zero, List.set]))
              (refine x_go (zc @okL_tk (zc @hkB (zc @hek (zc @htg (zc @tkA.eq_1 (zc @hTAl @Bool.not_true)))))) ?_)
              (apply Run.spec (he := (Enters.of Tryz.func54 rfl rfl)); exact rfl; (simp only [push_cast, seval, okL_tk, hkB, hek, htg, tkA, hTAl, Bool.not_true] <;> first | exact rfl | assumption); (exact x_ev (zc @okL_tk (zc @hkB (zc @hek (zc @htg (zc @tkA.eq_1 (zc @hTAl @Bool.not_true))))))); (exact c6); (rintro _ _ ⟨rfl, rfl⟩; dsimp only [Go.Vg.S.put, optG]))
              (repeat (refine x_nr (zc @okL_tk (zc @hkB (zc @hek (zc @htg (zc @tkA.eq_1 (zc @hTAl @Bool.not_true)))))) ?_))
              (apply Run.nil; dsimp only [sQ, tQ, bQ])
              refine Wp.freezeRow 6 7 (vi := v7 + 1) (off := 0) (len := p.1.ts.length) (szi := 1) (li := y.ts.map AV.int) (le' := [.agg (kO r f (.ints y.ts) (.osl 8 (v8 + 1) 0 p.1.pp.length) (.osl 9 (v9 + 1) 0 pl.length) (.int y.at_))]) (by decide) rfl rfl (by simp [hyl.1]) (by decide) ⟨.inr ⟨_, _, rfl, rfl, .inl rfl, .inl rfl, .inl rfl, .inl rfl, .inl rfl, .inl rfl, .inl rfl, .inl rfl, .inl rfl, .inl rfl, .inl rfl, .inr ⟨rfl, by simp [← hyl.1, List.take_of_length_le]⟩, .inl rfl, .inl rfl, .inl rfl, trivial⟩, trivial⟩ ?_
              try simp only [List.set_cons_succ, List.set_cons_zero]
              refine Wp.freezeRow 6 8 (vi := v8 + 1) (off := 0) (len := p.1.pp.length) (szi := 1) (li := y.pp.map AV.int) (le' := [.agg (kO r f (.ints y.ts) (.ints y.pp) (.osl 9 (v9 + 1) 0 pl.length) (.int y.at_))]) (by decide) rfl rfl (by simp [hyl.2]) (by decide) ⟨.inr ⟨_, _, rfl, rfl, .inl rfl, .inl rfl, .inl rfl, .inl rfl, .inl rfl, .inl rfl, .inl rfl, .inl rfl, .inl rfl, .inl rfl, .inl rfl, .inl rfl, .inr ⟨rfl, by simp [← hyl.2, List.take_of_length_le]⟩, .inl rfl, .inl rfl, trivial⟩, trivial⟩ ?_
              try simp only [List.set_cons_succ, List.set_cons_zero]
              refine Wp.freezeRow 6 9 (vi := v9 + 1) (off := 0) (len := pl.length) (szi := 1) (li := pl.map AV.int) (le' := [.agg (kX r f pl y)]) (by decide) rfl rfl (by simp) (by decide) ⟨.inr ⟨_, _, rfl, rfl, .inl rfl, .inl rfl, .inl rfl, .inl rfl, .inl rfl, .inl rfl, .inl rfl, .inl rfl, .inl rfl, .inl rfl, .inl rfl, .inl rfl, .inl rfl, .inr ⟨rfl, by simp [List.take_of_length_le]⟩, .inl rfl, trivial⟩, trivial⟩ ?_
              try simp only [List.set_cons_succ, List.set_cons_zero]
              cases hsk : sk S' y with
              | true =>
                rw [if_pos hsk] at hst
                rw [hsk, if_pos rfl] at hfd
                (refine x_go (zc @okL_tk (zc @hkB (zc @hek (zc @htg (zc @tkA.eq_1 (zc @hTAl (zc @Bool.not_true (zc @hfd (zc (hgk y hy) (hgl S' hk4)))))))))) ?_)
                (apply Run.pureFP; (exact x_ev (zc @okL_tk (zc @hkB (zc @hek (zc @htg (zc @tkA.eq_1 (zc @hTAl (zc @Bool.not_true (zc @hfd (zc (hgk y hy) (hgl S' hk4))))))))))); (exact (Enters.of Tryz.func48 rfl rfl)); (exact c7); (exact x_al (zc @okL_tk (zc @hkB (zc @hek (zc @htg (zc @tkA.eq_1 (zc @hTAl (zc @Bool.not_true (zc @hfd (zc (hgk y hy) (hgl S' hk4))))))))))); (try dsimp only [putA, optG]))
                (refine x_gg (zc @okL_tk (zc @hkB (zc @hek (zc @htg (zc @tkA.eq_1 (zc @hTAl (zc @Bool.not_true (zc @hfd (zc (hgk y hy) (hgl S' hk4)))))))))) ?_)
                refine ⟨(k + 1, S', ⟨v5 + 1, v6 + 1, v7 + 1 + 1, v8 + 1 + 1, v9 + 1 + 1, .row 3 [tkA t], .row 15 [.agg (kX r f pl y)], .row 1 [], .row 1 [], .row 1 []⟩), ?_, ⟨by simp only; omega, hst, hk3, hk4⟩, by simp only; omega⟩
                (refine Le.of ?_ ?_ rfl rfl <;> (try simp only [push_cast, seval, okL_tk, hkB, hek, htg, tkA, hTAl, Bool.not_true, hfd, hgk y hy, hgl S' hk4]) <;> (try (with_reducible rfl)))
              | false =>
                rw [if_neg (by rw [hsk]; simp)] at hst
                rw [hsk, if_neg (by simp)] at hfd
                by_cases hbig : S'.length = 4000
                · rw [if_pos hbig] at hst
                  have e9 : decide ((S'.length : Int) = 4000) = true := decide_eq_true (by omega)
                  (refine x_go (zc @okL_tk (zc @hkB (zc @hek (zc @htg (zc @tkA.eq_1 (zc @hTAl (zc @Bool.not_true (zc @hfd (zc (hgk y hy) (zc (hgl S' hk4) @e9)))))))))) ?_)
                  (apply Run.pureFP; (exact x_ev (zc @okL_tk (zc @hkB (zc @hek (zc @htg (zc @tkA.eq_1 (zc @hTAl (zc @Bool.not_true (zc @hfd (zc (hgk y hy) (zc (hgl S' hk4) @e9))))))))))); (exact (Enters.of Tryz.func48 rfl rfl)); (exact c7); (exact x_al (zc @okL_tk (zc @hkB (zc @hek (zc @htg (zc @tkA.eq_1 (zc @hTAl (zc @Bool.not_true (zc @hfd (zc (hgk y hy) (zc (hgl S' hk4) @e9))))))))))); (try dsimp only [putA, optG]))
                  (refine x_gg (zc @okL_tk (zc @hkB (zc @hek (zc @htg (zc @tkA.eq_1 (zc @hTAl (zc @Bool.not_true (zc @hfd (zc (hgk y hy) (zc (hgl S' hk4) @e9)))))))))) ?_)
                  (first | exact x_retA (zc @okL_tk (zc @hkB (zc @hek (zc @htg (zc @tkA.eq_1 (zc @hTAl (zc @Bool.not_true (zc @hfd (zc (hgk y hy) (zc (hgl S' hk4) @e9)))))))))) | refine x_retAZ (zc @okL_tk (zc @hkB (zc @hek (zc @htg (zc @tkA.eq_1 (zc @hTAl (zc @Bool.not_true (zc @hfd (zc (hgk y hy) (zc (hgl S' hk4) @e9)))))))))) ?_)
                  have hn := srow_none hst ((tkL r).length - (k + 1))
                  rw [show k + 1 + ((tkL r).length - (k + 1)) = (tkL r).length by omega] at hn
                  rw [hn] at hrun
                  subst hrun
                  exact Vw.tup (.cons .emp (.cons (Vw.self trivial) .nil))
                · rw [if_neg hbig] at hst
                  have e9 : decide ((S'.length : Int) = 4000) = false := decide_eq_false (by omega)
                  have hup : updL (mpK sdK S') (.string (sdK y)) (.int (S'.length : Int)) = mpK sdK (S' ++ [(y, i, k)]) := by
                    rw [updL_new _ _ _ hfd, mpK_snoc]
                  have hS2 : 0 < S'.length := by omega
                  have hsn : stdL r f pl S' ++ [.agg [.strs r.ps, .lst 4 (r.ts.map thA), .lst 3 (r.pp.map ppA), .lst 3 (r.wy.map wyA), .lst 8 (r.ac.map acA), .lst 3 (r.au.map auA), .int r.n, .lst 3 (r.goal.map ltA), .ints f.ts, .ints f.pp, .ints f.pl, .ints y.ts, .ints y.pp, .ints pl, .int y.at_, .int i, .int t.kd, .int t.nu, .int t.ar]] = stdL r f pl (S' ++ [(y, i, k)]) := by
                    rw [stdL_snoc]
                    unfold elA elC elT elB
                    simp only [if_neg (show ¬ S'.length = 0 by omega), ht]
                  have htk : (stdL r f pl S').take S'.length = stdL r f pl S' := List.take_of_length_le (by omega)
                  (refine x_go (zc @okL_tk (zc @hkB (zc @hek (zc @htg (zc @tkA.eq_1 (zc @hTAl (zc @Bool.not_true (zc @hfd (zc (hgk y hy) (zc (hgl S' hk4) (zc @e9 (zc @hup (zc @hlen2 @htk))))))))))))) ?_)
                  (apply Run.pureFP; (exact x_ev (zc @okL_tk (zc @hkB (zc @hek (zc @htg (zc @tkA.eq_1 (zc @hTAl (zc @Bool.not_true (zc @hfd (zc (hgk y hy) (zc (hgl S' hk4) (zc @e9 (zc @hup (zc @hlen2 @htk)))))))))))))); (exact (Enters.of Tryz.func48 rfl rfl)); (exact c7); (exact x_al (zc @okL_tk (zc @hkB (zc @hek (zc @htg (zc @tkA.eq_1 (zc @hTAl (zc @Bool.not_true (zc @hfd (zc (hgk y hy) (zc (hgl S' hk4) (zc @e9 (zc @hup (zc @hlen2 @htk)))))))))))))); (try dsimp only [putA, optG]))
                  (refine x_gg (zc @okL_tk (zc @hkB (zc @hek (zc @htg (zc @tkA.eq_1 (zc @hTAl (zc @Bool.not_true (zc @hfd (zc (hgk y hy) (zc (hgl S' hk4) (zc @e9 (zc @hup (zc @hlen2 @htk))))))))))))) ?_)
                  (apply Run.pureFP; (exact x_ev (zc @okL_tk (zc @hkB (zc @hek (zc @htg (zc @tkA.eq_1 (zc @hTAl (zc @Bool.not_true (zc @hfd (zc (hgk y hy) (zc (hgl S' hk4) (zc @e9 (zc @hup (zc @hlen2 @htk)))))))))))))); (exact (Enters.of Tryz.func48 rfl rfl)); (exact c7); (exact x_al (zc @okL_tk (zc @hkB (zc @hek (zc @htg (zc @tkA.eq_1 (zc @hTAl (zc @Bool.not_true (zc @hfd (zc (hgk y hy) (zc (hgl S' hk4) (zc @e9 (zc @hup (zc @hlen2 @htk)))))))))))))); (try dsimp only [putA, optG]))
                  (refine x_gs (zc @okL_tk (zc @hkB (zc @hek (zc @htg (zc @tkA.eq_1 (zc @hTAl (zc @Bool.not_true (zc @hfd (zc (hgk y hy) (zc (hgl S' hk4) (zc @e9 (zc @hup (zc @hlen2 @htk))))))))))))) ?_)
                  refine ⟨(k + 1, S' ++ [(y, i, k)], ⟨v5 + 1, v6 + 1, v7 + 1 + 1, v8 + 1 + 1, v9 + 1 + 1, .row 3 [tkA t], .row 15 [.agg (kX r f pl y)], .row 1 [], .row 1 [], .row 1 []⟩), ?_, ⟨by simp only; omega, hst, by simp; omega, allOk_snoc hk4 hy⟩, by simp only; omega⟩
                  simp only [← hsn, List.length_append, List.length_singleton]
                  (refine Le.of ?_ ?_ rfl rfl <;> (try simp only [push_cast, seval, okL_tk, hkB, hek, htg, tkA, hTAl, Bool.not_true, hfd, hgk y hy, hgl S' hk4, e9, hup, hlen2, htk]) <;> (try (with_reducible rfl)))
                  all_goals (rw [hsn]; simp only [lsM, List.length_append, List.length_singleton])
          · intro hk5
            have hk5 : k = (tkL r).length := by
              have : ¬ k < (tkL r).length := by simpa using hk5
              omega
            subst hk5
            have hold := srow_old _ hk2
            have hle := (srow_len _ _ hk2).1
            have hev2 : enV f pl S (i + 1) = enV f pl S' (i + 1) := by
              unfold enV
              rw [enN_old (fun j hj => by unfold sc; rw [hold j (by omega)])]
            rw [hk2] at hrun
            (refine x_go (zc @okL_tk (zc @hkB @hek)) ?_)
            refine ⟨(i + 1, S', (v4 + 1, .row 15 [.agg (kX r f pl p.1)]), ⟨v5, v6, v7, v8, v9, k5, k6, k7, k8, k9⟩), ?_, ⟨by simp only; omega, hk3, hk4, by simp only; omega, hrun⟩, by simp only; omega⟩
            simp only [← hev2]
            (refine Le.of ?_ ?_ rfl rfl <;> (try simp only [push_cast, seval, okL_tk, hkB, hek]) <;> (try (with_reducible rfl)))
    · (intro hc; first | replace hc := bT hc | skip)
      obtain rfl : i = S.length := by omega
      have htt : tot = some S := by
        rw [← hi5, show 4001 - S.length = (4000 - S.length) + 1 by omega]
        show (if S.length < S.length then _ else _) = _
        rw [if_neg (Nat.lt_irrefl _)]
      have hbk := hsq S htt
      subst htt
      have hlen := stdL_len r f pl S
      cases hen : enN f pl S S.length with
      | none =>
        have hev : enV f pl S S.length = -1 := by unfold enV; rw [hen]
        (refine x_gg (zc @okL_tk (zc @hkB (zc @hek @hev))) ?_)
        (first | exact x_retA (zc @okL_tk (zc @hkB (zc @hek @hev))) | refine x_retAZ (zc @okL_tk (zc @hkB (zc @hek @hev))) ?_)
        simp only [hen]
        exact Vw.tup (.cons .emp (.cons (Vw.self trivial) .nil))
      | some e =>
        have hev : enV f pl S S.length = e := by unfold enV; rw [hen]
        have hel := (enN_lt hen).1
        have e9 : decide ((e : Int) < 0) = false := decide_eq_false (by omega)
        simp only [hen]
        generalize hk : (fun k => (tkL r).getD k tk0) = gt
        have hgt : ∀ k, (tkL r).getD k tk0 = gt k := fun k => by rw [← hk]
        (refine x_gg (zc @okL_tk (zc @hkB (zc @hek (zc @hev (zc @e9 @hlen))))) ?_)
        (repeat (first | apply Wp.seq | apply Wp.block | (apply Wp.skip; dsimp only [sQ, tQ, bQ])))
        apply Wp.adopt 20 3; (exact x_ev (zc @okL_tk (zc @hkB (zc @hek (zc @hev (zc @e9 @hlen))))))
        (refine x_go (zc @okL_tk (zc @hkB (zc @hek (zc @hev (zc @e9 @hlen))))) ?_)
        refine Wp.loop (fun (q : Nat × List Nat) => { t := [(10, .osl 2 S.length 0 S.length), (20, .osl 10 q.2.length 0 q.2.length), (21, .int q.1)], m := lsM r f pl S ⟨v4, k4⟩ g ++ [⟨q.2.length, .row 3 ((q.2.map gt).map tkA)⟩], n := 131 })
          (fun q => q.1 + q.2.length ≤ e ∧ pth S e e = q.2 ++ pth S (e - q.2.length) q.1) (fun q => q.1) (e, []) ?_ ?_ ?_
        · (refine Le.of ?_ ?_ rfl rfl <;> (try simp only [push_cast, seval, okL_tk, hkB, hek, hev, e9, hlen]) <;> (try (with_reducible rfl)))
          all_goals (first | exact ⟨rfl, rfl⟩ | rfl)
        · exact ⟨by simp, by simp⟩
        · rintro ⟨i, L⟩ ⟨hL1, hL2⟩
          simp only at hL1 hL2
          (refine x_go (zc @okL_tk (zc @hkB (zc @hek (zc @hev (zc @e9 @hlen))))) ?_)
          (apply Wp.cond; (exact x_ev (zc @okL_tk (zc @hkB (zc @hek (zc @hev (zc @e9 @hlen)))))))
          · intro hi6
            have hi6 : 0 < i := by simpa using hi6
            have hiS : i < S.length := by omega
            have hgd := fun d => stdL_getD (r := r) (f := f) (pl := pl) (S := S) d hiS
            have hb := hbk i hi6 hiS
            have hpn : pth S (e - L.length) i = st' S i :: pth S (e - (L.length + 1)) (sb S i) := by
              rw [show e - L.length = (e - (L.length + 1)) + 1 by omega]
              show (if i = 0 then [] else _) = _
              rw [if_neg (by omega)]
            have hs1 : st' S i = (S.getD i (default, 0, 0)).2.2 := rfl
            have hs2 : sb S i = (S.getD i (default, 0, 0)).2.1 := rfl
            obtain ⟨p, hp⟩ : ∃ p, S.getD i (default, 0, 0) = p := ⟨_, rfl⟩
            rw [hp] at hs1 hs2
            simp only [hp] at hgd
            rw [hs1, hs2] at hpn
            rw [hs2] at hb
            have heT : elT r i p = gt p.2.2 := by unfold elT; rw [if_neg (by omega), hgt]
            have heB : elB i p = p.2.1 := by unfold elB; rw [if_neg (by omega)]
            have hU : ((L.map gt).map tkA).take L.length = (L.map gt).map tkA := List.take_of_length_le (by simp)
            (refine x_gs (zc @okL_tk (zc @hkB (zc @hek (zc @hlen (zc @hgd (zc @elA.eq_1 (zc @elC.eq_1 (zc @heT (zc @heB (zc @lenMp @hU)))))))))) ?_)
            refine ⟨(p.2.1, L ++ [p.2.2]), ?_, ⟨by simp; omega, by simp only [List.length_append, List.length_singleton]; rw [hL2, hpn]; simp⟩, hb⟩
            simp only [List.map_append, List.map_cons, List.map_nil, List.length_append, List.length_singleton, tkA]
            (refine Le.of ?_ ?_ rfl rfl <;> (try simp only [push_cast, seval, okL_tk, hkB, hek, hlen, hgd, elA, elC, heT, heB, List.length_map, hU]) <;> (try (with_reducible rfl)))
          · intro hi6
            have hi6 : i = 0 := by simpa using hi6
            subst hi6
            have hpz : pth S (e - L.length) 0 = [] := by cases e - L.length <;> rfl
            rw [hpz, List.append_nil] at hL2
            rw [hL2]
            have hrv := fun a0 a1 a2 a3 a4 a5 a6 a7 a8 a9 => rev_spec (a0 := a0) (a1 := a1) (a2 := a2) (a3 := a3) (a4 := a4) (a5 := a5) (a6 := a6) (a7 := a7) (a8 := a8) (a9 := a9) L.length (L.map gt) (by simp; omega)
            rw [List.length_map] at hrv
            (refine x_go (zc @okL_tk (zc @hkB (zc @hek @hlen))) ?_)
            (apply Run.spec (he := (Enters.of Tryz.func55 rfl rfl)); exact rfl; (simp only [push_cast, seval, okL_tk, hkB, hek, hlen] <;> first | exact rfl | assumption); (exact x_ev (zc @okL_tk (zc @hkB (zc @hek @hlen)))); (exact hrv _ _ _ _ _ _ _ _ _ _); (rintro _ _ ⟨rfl, rfl⟩; dsimp only [Go.Vg.S.put, optG]))
            (refine x_go (zc @okL_tk (zc @hkB (zc @hek @hlen))) ?_)
            (first | exact x_retA (zc @okL_tk (zc @hkB (zc @hek @hlen))) | refine x_retAZ (zc @okL_tk (zc @hkB (zc @hek @hlen))) ?_)
            exact Vw.tup (.cons (Vw.osl rfl (by simp) (by decide) (by rw [List.drop_zero, List.take_of_length_le (by simp)]; exact VwL.okAll (by rw [okL_tk]; trivial))) (.cons (Vw.self trivial) .nil))
end Go.Proofs.Tryz
set_option maxHeartbeats 16000000
namespace Go.Proofs.Tryz
open Go.Vg

/-! check: the keeper plays a list; its memory in Check and in Play -/
abbrev ckM (a2 : Ent) (r : Rm) (f : St) (n1 n2 n3 : Nat) (ts pp pl : List Int) (a : Int) : Mem := [⟨1, .row 8 []⟩, ⟨1, .row 3 []⟩, a2, ⟨1, .row 8 []⟩, ⟨1, .row 3 []⟩, ⟨0, .row 3 [stA f]⟩, ⟨1, .row 15 [.agg (kO r f (.osl 9 1 0 n1) (.osl 10 1 0 n2) (.osl 11 1 0 n3) (.int a))]⟩, ⟨1, .row 3 []⟩, ⟨0, .row 3 [.agg [.osl 9 1 0 n1, .osl 10 1 0 n2, .osl 11 1 0 n3]]⟩, ⟨1, .row 1 (ts.map AV.int)⟩, ⟨1, .row 1 (pp.map AV.int)⟩, ⟨1, .row 1 (pl.map AV.int)⟩]
abbrev ckV (a2 : Ent) (r : Rm) (f : St) (n1 n2 n3 : Nat) (ts pp pl : List Int) (a : Int) (v : Nat) (kd : Kind) : Mem := [⟨1, .row 8 []⟩, ⟨1, .row 3 []⟩, a2, ⟨1, .row 8 []⟩, ⟨1, .row 3 []⟩, ⟨0, .row 3 [stA f]⟩, ⟨1, .row 15 [.agg (kO r f (.osl 9 1 0 n1) (.osl 10 1 0 n2) (.osl 11 1 0 n3) (.int a))]⟩, ⟨1, .row 3 []⟩, ⟨0, .row 3 [.agg [.osl 9 1 0 n1, .osl 10 1 0 n2, .osl 11 1 0 n3]]⟩, ⟨1, .row 1 (ts.map AV.int)⟩, ⟨1, .row 1 (pp.map AV.int)⟩, ⟨1, .row 1 (pl.map AV.int)⟩, ⟨v, kd⟩]
theorem cdo_walk (r : Rm) (f : St) (ts pp pl : List Int) (a : Int) (n : Nat) (ar : Int) (hn : n < r.wy.length) (hx : (0 ≤ (r.wy.getD n wy0).a ∧ (r.wy.getD n wy0).a ≤ 100) ∧ (0 ≤ (r.wy.getD n wy0).b ∧ (r.wy.getD n wy0).b ≤ 100) ∧ 0 ≤ a ∧ a ≤ 100) {a2 : Ent} (h2 : a2.kind.ok 13) (v n1 n2 n3 : Nat) (t : Tk) :
    Go.Vg.Spec Tryz.prog 54 [.optr 6 1 0 0, .agg [.int 1, .int n, .int ar]] (ckV a2 r f n1 n2 n3 ts pp pl a v (.row 3 [tkA t])) (fun x m' => x = .tup [] ∧ m' = ckV a2 r f n1 n2 n3 ts pp pl ((r.wy.getD n wy0).a + (r.wy.getD n wy0).b - a) v (.row 3 [tkA t])) := by
  have hgd := fun d => getD_wy (d := d) hn
  obtain ⟨x, hx2⟩ : ∃ x, r.wy.getD n wy0 = x := ⟨_, rfl⟩
  simp only [hx2] at hgd hx ⊢
  unfold ckV stA tkA
  (refine Spec.bd 13 Tryz.func54 Tryz.results54 Tryz.ntmps54 ?_; simp only [entry, zipArgs, Nat.reduceAdd])
  (refine x_gg (zc @hgd (zc @wyA.eq_1 @Int.toNat_natCast)) ?_)
  (apply Wp.runVE 10 mixed; (dsimp only [List.map] <;> exact rfl); exact rfl; kernel_rfl; (dsimp only [List.take] <;> exact rfl); (dsimp only [List.drop] <;> exact rfl); kernel_rfl; ((try dsimp only); (repeat (first | (apply AbsV.alc; exact rfl; (exact x_ev (zc @hgd (zc @wyA.eq_1 @Int.toNat_natCast))); ((try simp only [push_cast, seval, hgd, wyA, Int.toNat_natCast]) <;> exact sT); dsimp only [upd, alcV, List.length_cons, List.length_nil, Nat.reduceAdd]) | (apply AbsV.apn; exact rfl; (exact x_ev (zc @hgd (zc @wyA.eq_1 @Int.toNat_natCast))); ((try simp only [push_cast, seval, hgd, wyA, Int.toNat_natCast]) <;> exact sT); dsimp only [upd, alcV, List.length_cons, List.length_nil, Nat.reduceAdd]) | (apply AbsV.cons; exact rfl; exact rfl; (exact x_ev (zc @hgd (zc @wyA.eq_1 @Int.toNat_natCast))); ((try simp only [push_cast, seval, hgd, wyA, Int.toNat_natCast]) <;> exact sT); dsimp only [upd]))); exact AbsV.nil); exact rfl; ((try dsimp only [List.map, List.cons_append, List.nil_append]); (exact x_ev (zc @hgd (zc @wyA.eq_1 @Int.toNat_natCast)))); ((try simp only [push_cast, seval, hgd, wyA, Int.toNat_natCast]) <;> exact sT); dsimp only [upd])
  (refine x_mv (zc @hgd (zc @wyA.eq_1 @Int.toNat_natCast)) ?_)
  (apply Wp.runE 13 13 mixed; (dsimp only [List.map] <;> exact rfl); exact rfl; kernel_rfl; ((refine x_nx (zc @hgd (zc @wyA.eq_1 @Int.toNat_natCast)) ?_); (refine x_ef (zc @hgd (zc @wyA.eq_1 @Int.toNat_natCast)) ?_); exact Abe.nil))
  (refine x_gg (zc @hgd (zc @wyA.eq_1 @Int.toNat_natCast)) ?_)
  dsimp only [sQ, tQ, bQ]
  (apply leaveKN; exact rfl; (exact x_ev (zc @hgd (zc @wyA.eq_1 @Int.toNat_natCast))); ((exact x_cl (zc @hgd (zc @wyA.eq_1 @Int.toNat_natCast)))); ((exact x_cl (zc @hgd (zc @wyA.eq_1 @Int.toNat_natCast)))); (focus (first | (simp only [push_cast, seval, hgd, wyA, Int.toNat_natCast]; done) | trivial | (simp only [push_cast, seval, hgd, wyA, Int.toNat_natCast]; trivial) | (simp; done) | (simp only [List.take_succ_cons, List.take_zero, List.mem_cons, List.not_mem_nil, or_false, forall_eq_or_imp, forall_eq]; (try simp only [Kind.ok, okL, AV.ok]); (try simp only [okL_str, okL_th, okL_pp, okL_wy, okL_ac, okL_au, okL_lt, okL_mapInt]); simp_all))); (try simp only [push_cast, seval, hgd, wyA, Int.toNat_natCast]))
theorem cdo_turn (r : Rm) (f : St) (ts pp pl : List Int) (a : Int) (n : Nat) (ar : Int) (hn : n < ts.length) {a2 : Ent} (h2 : a2.kind.ok 13) (v n2 n3 : Nat) (t : Tk) :
    Go.Vg.Spec Tryz.prog 54 [.optr 6 1 0 0, .agg [.int 2, .int n, .int ar]] (ckV a2 r f ts.length n2 n3 ts pp pl a v (.row 3 [tkA t])) (fun x m' => x = .tup [] ∧ m' = ckV a2 r f ts.length n2 n3 (ts.set n ar) pp pl a v (.row 3 [tkA t])) := by
  unfold ckV stA tkA
  (refine Spec.bd 13 Tryz.func54 Tryz.results54 Tryz.ntmps54 ?_; simp only [entry, zipArgs, Nat.reduceAdd])
  (refine x_gg @Int.toNat_natCast ?_)
  (apply Wp.runE 10 10 mixed; (dsimp only [List.map] <;> exact rfl); exact rfl; kernel_rfl; ((refine x_nx @Int.toNat_natCast ?_); (refine x_ef @Int.toNat_natCast ?_); exact Abe.nil))
  (refine x_gg @Int.toNat_natCast ?_)
  dsimp only [sQ, tQ, bQ]
  (apply leaveKN; exact rfl; (exact x_ev @Int.toNat_natCast); ((exact x_cl @Int.toNat_natCast)); ((exact x_cl @Int.toNat_natCast)); (focus (first | (simp only [push_cast, seval, Int.toNat_natCast]; done) | trivial | (simp only [push_cast, seval, Int.toNat_natCast]; trivial) | (simp; done) | (simp only [List.take_succ_cons, List.take_zero, List.mem_cons, List.not_mem_nil, or_false, forall_eq_or_imp, forall_eq]; (try simp only [Kind.ok, okL, AV.ok]); (try simp only [okL_str, okL_th, okL_pp, okL_wy, okL_ac, okL_au, okL_lt, okL_mapInt]); simp_all))); (try simp only [push_cast, seval, Int.toNat_natCast]))
  try simp only [List.map_set]
theorem cdo_put (r : Rm) (f : St) (ts pp pl : List Int) (a : Int) (n : Nat) (ar : Int) (hn : n < pp.length) (hf : n < f.pp.length) {a2 : Ent} (h2 : a2.kind.ok 13) (v n1 n3 : Nat) (t : Tk) :
    Go.Vg.Spec Tryz.prog 54 [.optr 6 1 0 0, .agg [.int 3, .int n, .int ar]] (ckV a2 r f n1 pp.length n3 ts pp pl a v (.row 3 [tkA t])) (fun x m' => x = .tup [] ∧ m' = ckV a2 r f n1 pp.length n3 ts (pp.set n (f.pp.getD n 0)) pl a v (.row 3 [tkA t])) := by
  unfold ckV stA tkA
  (refine Spec.bd 13 Tryz.func54 Tryz.results54 Tryz.ntmps54 ?_; simp only [entry, zipArgs, Nat.reduceAdd])
  (refine x_gg @Int.toNat_natCast ?_)
  (apply Wp.runE 17 17 mixed; (dsimp only [List.map] <;> exact rfl); exact rfl; kernel_rfl; ((refine x_nx @Int.toNat_natCast ?_); (refine x_ef @Int.toNat_natCast ?_); exact Abe.nil))
  (refine x_gg @Int.toNat_natCast ?_)
  dsimp only [sQ, tQ, bQ]
  (apply leaveKN; exact rfl; (exact x_ev @Int.toNat_natCast); ((exact x_cl @Int.toNat_natCast)); ((exact x_cl @Int.toNat_natCast)); (focus (first | (simp only [push_cast, seval, Int.toNat_natCast]; done) | trivial | (simp only [push_cast, seval, Int.toNat_natCast]; trivial) | (simp; done) | (simp only [List.take_succ_cons, List.take_zero, List.mem_cons, List.not_mem_nil, or_false, forall_eq_or_imp, forall_eq]; (try simp only [Kind.ok, okL, AV.ok]); (try simp only [okL_str, okL_th, okL_pp, okL_wy, okL_ac, okL_au, okL_lt, okL_mapInt]); simp_all))); (try simp only [push_cast, seval, Int.toNat_natCast]))
  try simp only [List.map_set]
theorem cdo_spec {r : Rm} (hv : RV r) {f : St} (hf : SV r f) {pl : List Int} {x : Sd} (hx : SdOk r pl x) {t : Tk} (hc : canB r f (sdS pl x) x.at_ t = true) {a2 : Ent} (h2 : a2.kind.ok 13) (v : Nat) {n1 n2 : Nat} (e1 : n1 = x.ts.length) (e2 : n2 = x.pp.length) :
    Go.Vg.Spec Tryz.prog 54 [.optr 6 1 0 0, tkA t] (ckV a2 r f n1 n2 pl.length x.ts x.pp pl x.at_ v (.row 3 [tkA t])) (fun y m' => y = .tup [] ∧ m' = ckV a2 r f n1 n2 pl.length (nxT r f pl x t).ts (nxT r f pl x t).pp pl (nxT r f pl x t).at_ v (.row 3 [tkA t])) := by
  subst e1 e2
  have hps := hv.ps
  have hq : (tkA t) = .agg [.int t.kd, .int t.nu, .int t.ar] := rfl
  rw [show ([.optr 6 1 0 0, tkA t] : List AV) = [.optr 6 1 0 0, .agg [.int t.kd, .int t.nu, .int t.ar]] from rfl]
  have hts : (nxT r f pl x t).ts = (doS r f (sdS pl x) x.at_ t).ts := rfl
  have hpp : (nxT r f pl x t).pp = (doS r f (sdS pl x) x.at_ t).pp := rfl
  have hat : (nxT r f pl x t).at_ = doA r x.at_ t := rfl
  rw [hts, hpp, hat]
  unfold canB at hc
  unfold doS doA
  split at hc
  · rename_i hk
    have k2 : ¬ t.kd = 2 := by omega
    have k3 : ¬ t.kd = 3 := by omega
    rw [if_neg k2, if_neg k3, if_pos hk, hk]
    unfold wkB wi at hc
    simp only [Bool.and_eq_true, Bool.or_eq_true, decide_eq_true_eq] at hc
    obtain ⟨⟨_, q1, q2⟩, q3⟩ := hc
    obtain ⟨n, hn⟩ : ∃ n : Nat, t.nu = n := ⟨t.nu.toNat, by omega⟩
    rw [hn] at q1 q2 q3 ⊢
    simp only [Int.toNat_natCast] at *
    have hn : n < r.wy.length := by omega
    have hm := hv.wyv (r.wy.getD n wy0) (by rw [show r.wy.getD n wy0 = r.wy[n] by simp [hn]]; exact List.getElem_mem _)
    exact cdo_walk r f x.ts x.pp pl x.at_ n t.ar hn ⟨by omega, by omega, hx.2.1, by have := hx.2.2; omega⟩ h2 v _ _ _ t
  · rename_i hk1
    split at hc
    · rename_i hk
      rw [if_pos hk, if_neg (show ¬ t.kd = 1 by omega), hk]
      unfold tnB wi at hc
      simp only [Bool.and_eq_true, decide_eq_true_eq] at hc
      obtain ⟨⟨q1, q2⟩, _⟩ := hc
      obtain ⟨n, hn⟩ : ∃ n : Nat, t.nu = n := ⟨t.nu.toNat, by omega⟩
      rw [hn] at q1 q2 ⊢
      simp only [Int.toNat_natCast]
      exact cdo_turn r f x.ts x.pp pl x.at_ n t.ar (by have : x.ts.length = r.ts.length := hx.1.ts; omega) h2 v _ _ t
    · rename_i hk2
      split at hc
      · rename_i hk
        rw [if_neg hk2, if_pos hk, if_neg (show ¬ t.kd = 1 by omega), hk]
        unfold ptB wi at hc
        simp only [Bool.and_eq_true, decide_eq_true_eq] at hc
        obtain ⟨⟨⟨_, q1, q2⟩, _⟩, _⟩ := hc
        obtain ⟨n, hn⟩ : ∃ n : Nat, t.nu = n := ⟨t.nu.toNat, by omega⟩
        rw [hn] at q1 q2 ⊢
        simp only [Int.toNat_natCast]
        exact cdo_put r f x.ts x.pp pl x.at_ n t.ar (by have : x.pp.length = r.pp.length := hx.1.pp; omega) (by have := hf.pp; omega) h2 v _ _ t
      · cases hc
theorem kVw (a2 : Ent) (r : Rm) (f : St) (ts pp pl : List Int) (a : Int) (v : Nat) (kd : Kind) {n1 n2 n3 : Nat} (h1 : n1 = ts.length) (h2 : n2 = pp.length) (h3 : n3 = pl.length) : Vw (ckV a2 r f n1 n2 n3 ts pp pl a v kd) (.optr 6 1 0 0) (.ref (kC r f ⟨ts, pp, pl⟩ a) 0) := by
  subst h1 h2 h3
  refine Vw.optr rfl rfl (by simp [AV.cells]) ?_
  have h1 : VwL (ckV a2 r f ts.length pp.length pl.length ts pp pl a v kd) [.strs r.ps, .lst 4 (r.ts.map thA), .lst 3 (r.pp.map ppA), .lst 3 (r.wy.map wyA), .lst 8 (r.ac.map acA), .lst 3 (r.au.map auA), .int r.n, .lst 3 (r.goal.map ltA), .ints f.ts, .ints f.pp, .ints f.pl] [.strs r.ps, .lst 4 (r.ts.map thA), .lst 3 (r.pp.map ppA), .lst 3 (r.wy.map wyA), .lst 8 (r.ac.map acA), .lst 3 (r.au.map auA), .int r.n, .lst 3 (r.goal.map ltA), .ints f.ts, .ints f.pp, .ints f.pl] :=
    VwL.okAll (by simp [okL, AV.ok, okL_str, okL_th, okL_pp, okL_wy, okL_ac, okL_au, okL_lt, okL_mapInt])
  exact VwL.app h1 (.cons (Vw.ointsR rfl rfl) (.cons (Vw.ointsR rfl rfl) (.cons (Vw.ointsR rfl rfl) (.cons (Vw.self trivial) .nil))))
/-- how many tasks of a list can be done, and the stand behind them -/
def ckN (r : Rm) (f : St) (pl : List Int) : List Tk → Sd → Nat
  | [], _ => 0
  | t :: l, x => if canB r f (sdS pl x) x.at_ t = true then ckN r f pl l (nxT r f pl x t) + 1 else 0
def ckL (r : Rm) (f : St) (pl : List Int) : List Tk → Sd → Sd
  | [], x => x
  | t :: l, x => if canB r f (sdS pl x) x.at_ t = true then ckL r f pl l (nxT r f pl x t) else x
theorem ckL_ok {r : Rm} (hv : RV r) {f : St} (hf : SV r f) {pl : List Int} : ∀ (l : List Tk) {x : Sd}, SdOk r pl x → SdOk r pl (ckL r f pl l x)
  | [], _, h => h
  | t :: l, x, h => by
    unfold ckL
    split
    · rename_i hc; exact ckL_ok hv hf l (nx_ok hv hf h hc)
    · exact h
/-- what check answers -/
def ckR (r : Rm) (f : St) (pl : List Int) (l : List Tk) (x : Sd) : Int × Int :=
  if 200 < l.length then (0, 2) else if ckN r f pl l x < l.length then (ckN r f pl l x, 90) else if ovB f pl (ckL r f pl l x) = true then (0, 0) else (l.length, 90)
def ckF (r : Rm) (f : St) (pl : List Int) (l : List Tk) (x : Sd) : Sd := if 200 < l.length then x else ckL r f pl l x
theorem check_spec {r : Rm} (hz : Sz r) (hv : RV r) (hch : chE r = 0) {f : St} (hf : SV r f) {pl : List Int} {x0 : Sd} (hx0 : SdOk r pl x0) (l : List Tk) (hl : l.length ≤ 100000) {a2 : Ent} (h2 : a2.kind.ok 12) (h3 : a2.kind.ok 13) :
    Go.Vg.Spec Tryz.prog 71 [.optr 6 1 0 0, .lst 3 (l.map tkA)] (ckM a2 r f x0.ts.length x0.pp.length pl.length x0.ts x0.pp pl x0.at_) (fun y m' => y = .tup [.int (ckR r f pl l x0).1, .int (ckR r f pl l x0).2] ∧ m' = ckM a2 r f x0.ts.length x0.pp.length pl.length (ckF r f pl l x0).ts (ckF r f pl l x0).pp pl (ckF r f pl l x0).at_) := by
  have hTAl : (l.map tkA).length = l.length := List.length_map _
  have hgd : ∀ k, k < l.length → ∀ d, (l.map tkA).getD k d = tkA (l.getD k tk0) := fun k hk d => getD_tk d hk
  generalize hTk : l.map tkA = TA at *
  by_cases hbig : 200 < l.length
  · have e1 : decide ((200 : Int) < (l.length : Int)) = true := decide_eq_true (by omega)
    unfold ckR ckF
    rw [if_pos hbig, if_pos hbig]
    unfold ckM stA
    (refine Spec.bd 12 Tryz.func71 Tryz.results71 Tryz.ntmps71 ?_; simp only [entry, zipArgs, Nat.reduceAdd])
    (refine x_gg (zc @hTAl @e1) ?_)
    (first | exact x_retK (zc @hTAl @e1) | refine x_retKZ (zc @hTAl @e1) ?_)
  · have e1 : decide ((200 : Int) < (l.length : Int)) = false := decide_eq_false (by omega)
    unfold ckR ckF
    rw [if_neg hbig, if_neg hbig]
    obtain ⟨n1, hn1⟩ : ∃ n, x0.ts.length = n := ⟨_, rfl⟩
    obtain ⟨n2, hn2⟩ : ∃ n, x0.pp.length = n := ⟨_, rfl⟩
    rw [hn1, hn2]
    have hcn : ∀ x : Sd, SdOk r pl x → ∀ t, Pure Tryz.prog 52 [.ref (kX r f pl x) 0, tkA t] (.bool (canB r f (sdS pl x) x.at_ t)) := fun x hx t => can_pure hz f (s := ⟨x.ts, x.pp, pl⟩) (SV.zs hz hv hx.1) (by unfold csE; rw [orE_ok hch, if_pos (show csB r ⟨x.ts, x.pp, pl⟩ = true from csB_SV.2 hx.1)]) hf.pp (SV.zs hz hv hf).ts x.at_ t
    have hrs : ∀ x : Sd, SdOk r pl x → Pure Tryz.prog 51 [.ref (kX r f pl x) 0] (.bool (rsB f (sdS pl x))) := fun x hx => reset_pure r f ⟨x.ts, x.pp, pl⟩ (SV.zs hz hv hx.1) x.at_
    obtain ⟨M, hM⟩ : ∃ M, ckN r f pl l x0 = M := ⟨_, rfl⟩
    obtain ⟨L, hL⟩ : ∃ L, ckL r f pl l x0 = L := ⟨_, rfl⟩
    rw [hM, hL]
    unfold ckM stA
    (refine Spec.bd 12 Tryz.func71 Tryz.results71 Tryz.ntmps71 ?_; simp only [entry, zipArgs, Nat.reduceAdd])
    (refine x_gg (zc @hTAl @e1) ?_)
    (refine Wp.vacs 1 ?_; (try simp only [List.replicate_succ, List.replicate_zero, List.cons_append, List.nil_append]))
    refine Wp.loop (fun (q : Nat × Sd × Nat × Kind) => { t := [(0, .optr 6 1 0 0), (1, .lst 3 TA), (11, .lst 3 TA), (12, .int l.length), (13, .int q.1)], m := [⟨1, .row 8 []⟩, ⟨1, .row 3 []⟩, a2, ⟨1, .row 8 []⟩, ⟨1, .row 3 []⟩, ⟨0, .row 3 [.agg [.ints f.ts, .ints f.pp, .ints f.pl]]⟩, ⟨1, .row 15 [.agg (kO r f (.osl 9 1 0 n1) (.osl 10 1 0 n2) (.osl 11 1 0 pl.length) (.int q.2.1.at_))]⟩, ⟨1, .row 3 []⟩, ⟨0, .row 3 [.agg [.osl 9 1 0 n1, .osl 10 1 0 n2, .osl 11 1 0 pl.length]]⟩, ⟨1, .row 1 (q.2.1.ts.map AV.int)⟩, ⟨1, .row 1 (q.2.1.pp.map AV.int)⟩, ⟨1, .row 1 (pl.map AV.int)⟩, ⟨q.2.2.1, q.2.2.2⟩], n := 39 })
      (fun q => q.1 ≤ l.length ∧ SdOk r pl q.2.1 ∧ q.2.1.ts.length = n1 ∧ q.2.1.pp.length = n2 ∧ M = q.1 + ckN r f pl (l.drop q.1) q.2.1 ∧ L = ckL r f pl (l.drop q.1) q.2.1) (fun q => l.length - q.1) (0, x0, 0, .row 1 []) ?_ ?_ ?_
    · (refine Le.of ?_ ?_ rfl rfl <;> (try simp only [push_cast, seval, hTAl, e1]) <;> (try (with_reducible rfl)))
    · exact ⟨Nat.zero_le _, hx0, hn1, hn2, by simp [hM], by simp [hL]⟩
    · rintro ⟨k, x, v, kd⟩ ⟨hk1, hk2, hk3, hk4, hk5, hk6⟩
      simp only at hk1 hk2 hk3 hk4 hk5 hk6
      (refine x_go (zc @hTAl @e1) ?_)
      (apply Wp.cond; (exact x_ev (zc @hTAl @e1)))
      · intro hk7
        have hk7 : k < l.length := by simpa using hk7
        have htg := hgd k hk7
        have hdr : l.drop k = l.getD k tk0 :: l.drop (k + 1) := by
          rw [List.drop_eq_getElem_cons hk7]; simp [hk7]
        rw [hdr] at hk5 hk6
        obtain ⟨t, ht⟩ : ∃ t, l.getD k tk0 = t := ⟨_, rfl⟩
        rw [ht] at hk5 hk6
        simp only [ht] at htg
        have c4 := hcn x hk2 t
        unfold ckN at hk5
        unfold ckL at hk6
        cases hcb : canB r f (sdS pl x) x.at_ t with
        | false =>
          rw [hcb] at c4
          rw [if_neg (by rw [hcb]; simp)] at hk5 hk6
          unfold tkA at htg c4
          (refine x_gs (zc @hTAl @htg) ?_)
          (apply Run.alcAt 12; (exact x_ev (zc @hTAl @htg)); ((try simp only [push_cast, seval, hTAl, htg]) <;> exact sT); exact rfl; (try simp only [push_cast, seval, hTAl, htg]))
          (refine x_go (zc @hTAl @htg) ?_)
          (apply Run.pureW; (exact x_ev (zc @hTAl @htg)); (exact (Enters.of Tryz.func52 rfl rfl)); (exact c4); (exact VwL.cons (kVw a2 r f x.ts x.pp pl x.at_ _ _ hk3.symm hk4.symm rfl) (VwL.cons (Vw.self (by simp [AV.ok, okL])) VwL.nil)); (simp only [push_cast, seval, hTAl, htg] <;> first | trivial | assumption | (refine ⟨?_, ?_⟩ <;> assumption) | (simp; done)); (try dsimp only [putA, optG]))
          (refine x_gg (zc @hTAl @htg) ?_)
          (first | exact x_retK (zc @hTAl @htg) | refine x_retKZ (zc @hTAl @htg) ?_)
          rw [if_pos (by omega), hk6]
          refine ⟨?_, rfl⟩
          simp only [hk5, Nat.add_zero]
        | true =>
          rw [hcb] at c4
          rw [if_pos (by rw [hcb])] at hk5 hk6
          have hy := nx_ok hv hf hk2 hcb
          have hyl : (nxT r f pl x t).ts.length = n1 ∧ (nxT r f pl x t).pp.length = n2 := ⟨(hy.1.ts.trans hk2.1.ts.symm).trans hk3, (hy.1.pp.trans hk2.1.pp.symm).trans hk4⟩
          have c6 := fun v => cdo_spec hv hf hk2 hcb h3 v hk3.symm hk4.symm
          generalize nxT r f pl x t = y at *
          unfold tkA at htg c4 c6
          unfold ckV stA at c6
          (refine x_gs (zc @hTAl @htg) ?_)
          (apply Run.alcAt 12; (exact x_ev (zc @hTAl @htg)); ((try simp only [push_cast, seval, hTAl, htg]) <;> exact sT); exact rfl; (try simp only [push_cast, seval, hTAl, htg]))
          (refine x_go (zc @hTAl @htg) ?_)
          (apply Run.pureW; (exact x_ev (zc @hTAl @htg)); (exact (Enters.of Tryz.func52 rfl rfl)); (exact c4); (exact VwL.cons (kVw a2 r f x.ts x.pp pl x.at_ _ _ hk3.symm hk4.symm rfl) (VwL.cons (Vw.self (by simp [AV.ok, okL])) VwL.nil)); (simp only [push_cast, seval, hTAl, htg] <;> first | trivial | assumption | (refine ⟨?_, ?_⟩ <;> assumption) | (simp; done)); (try dsimp only [putA, optG]))
          (refine x_gg (zc @hTAl @htg) ?_)
          (apply Run.spec (he := (Enters.of Tryz.func54 rfl rfl)); exact rfl; (simp only [push_cast, seval, hTAl, htg] <;> first | exact rfl | assumption); (exact x_ev (zc @hTAl @htg)); (exact c6 _); (rintro _ _ ⟨rfl, rfl⟩; dsimp only [Go.Vg.S.put, optG]))
          (refine x_gg (zc @hTAl @htg) ?_)
          refine ⟨(k + 1, y, v + 1, .row 3 [.agg [.int t.kd, .int t.nu, .int t.ar]]), ?_, ⟨by simp only; omega, hy, hyl.1, hyl.2, by rw [hk5]; simp only; omega, hk6⟩, by simp only; omega⟩
          (refine Le.of ?_ ?_ rfl rfl <;> (try simp only [push_cast, seval, hTAl, htg]) <;> (try (with_reducible rfl)))
      · intro hk7
        obtain rfl : k = l.length := by
          have : ¬ k < l.length := by simpa using hk7
          omega
        rw [List.drop_length] at hk5 hk6
        have hk5 : M = l.length := by rw [hk5]; rfl
        have hk6 : L = x := hk6
        subst hk6
        have c3 := hrs L hk2
        rw [if_neg (by omega)]
        unfold ovB
        generalize rsB f (sdS pl L) = rb at *
        (refine x_go (zc @hTAl @e1) ?_)
        (apply Run.pureW; (exact x_ev (zc @hTAl @e1)); (exact (Enters.of Tryz.func51 rfl rfl)); (exact c3); (exact VwL.cons (kVw a2 r f L.ts L.pp pl L.at_ _ _ hk3.symm hk4.symm rfl) VwL.nil); (simp only [push_cast, seval, hTAl, e1] <;> first | trivial | assumption | (refine ⟨?_, ?_⟩ <;> assumption) | (simp; done)); (try dsimp only [putA, optG]))
        (refine x_gg (zc @hTAl @e1) ?_)
        (apply Wp.cond; (exact x_ev (zc @hTAl @e1)))
        · intro hq
          rw [if_neg (by simp only [push_cast] at hq ⊢; revert hq; cases rb <;> simp)]
          (refine x_gg (zc @hTAl @e1) ?_)
          (first | exact x_retK (zc @hTAl @e1) | refine x_retKZ (zc @hTAl @e1) ?_)
        · intro hq
          rw [if_pos (by simp only [push_cast] at hq ⊢; revert hq; cases rb <;> simp)]
          (refine x_gg (zc @hTAl @e1) ?_)
          (first | exact x_retK (zc @hTAl @e1) | refine x_retKZ (zc @hTAl @e1) ?_)
end Go.Proofs.Tryz
namespace Go.Vg
open Go.RowKit
variable {P : Program}

/-- the entry that is allocated (and stored to), then what the call lays -/
def lay3 (F : Mem) (B0 B1 : Ent) : List Bool → Mem
  | [c, a, s] => (if s then B1 else if a then B0 else vacE) :: (if c then F else [])
  | _ => []
theorem Wp.runF3 (c b e : Nat) (F : Mem) (B0 B1 : Ent) {r : Option Nat} {Q : Exit → S → Prop} {s : S} {id : Nat} {ops : List Oper} {gds : List (Option Nat)} {t1 : List (Nat × AV)} (hm : P.follows .mixedOrders = true) (hg : ops.map (·.dst) = gds) (hB : gds.all (dstB s.n) = true)
    (hord : ordB gds ops ops.length = true) (hes : [c, b, e].all (fun e => decide (e < ops.length)) = true)
    (habs : AbsM P gds ops [c, b, e] (fun z => s.m ++ lay3 F B0 B1 z) s.n 0 ops s.t t1) (h : Q .normal ⟨t1, s.m ++ B1 :: F, s.n, s.d⟩) : Wp P r (.region id ops.toArray true) Q s := by
  refine Wp.vacs 1 ?_
  exact Wp.runM [c, b, e] (fun z => s.m ++ lay3 F B0 B1 z) (s := { s with m := s.m ++ List.replicate 1 vacE }) hm hg hB hord hes rfl habs h
section
variable {gds : List (Option Nat)} {ops l : List Oper} {m F : Mem} {B0 B1 : Ent} {n k c b e : Nat} {t t' : List (Nat × AV)} {x : AV} {p : Prop} {dst : Option Nat} {op : Op} {type : TypeId} {pos : String} {after : Array Edge}
theorem AbsM.twoY {o : Oper} {u0 u1 w0 w1 : List Bool} (h1 : dstB n o.dst = true) (hc : ((consL ops [c, b, e] k).all fun z => z == u0 || z == u1) = true) (hs0 : setB [c, b, e] k u0 = w0) (hs1 : setB [c, b, e] k u1 = w1)
    (h2 : StepAt P gds t (m ++ lay3 F B0 B1 u0) o (m ++ lay3 F B0 B1 w0) x) (h3 : StepAt P gds t (m ++ lay3 F B0 B1 u1) o (m ++ lay3 F B0 B1 w1) x)
    (h4 : AbsM P gds ops [c, b, e] (fun z => m ++ lay3 F B0 B1 z) n (k + 1) l (upd t o.dst x) t') : AbsM P gds ops [c, b, e] (fun z => m ++ lay3 F B0 B1 z) n k (o :: l) t t' :=
  .cons (dstB_ok h1) (fun bits hb => by
    have := List.all_eq_true.1 hc bits hb
    rcases Bool.or_eq_true _ _ ▸ this with h | h
    · obtain rfl := eq_of_beq h; rw [hs0]; exact h2
    · obtain rfl := eq_of_beq h; rw [hs1]; exact h3) h4
theorem AbsM.callY {m' : Mem} {fo : Operand} {args : List Operand} {tys : Array TypeId} {f : FuncId} {caps vargs : List AV}
    (h1 : dstB n dst = true) (hc : ((consL ops [c, b, e] k).all fun z => z == [false, false, false] || z == [false, true, false]) = true) (hs0 : setB [c, b, e] k [false, false, false] = [true, false, false]) (hs1 : setB [c, b, e] k [false, true, false] = [true, true, false])
    (hf : fnOf (evo t fo) = some (f, caps)) (he : Enters P f) (hv : args.map (evo t) ++ caps = vargs) (hk : okL 0 vargs) (hsp : Spec P f vargs [] fun x' m'' => x' = x ∧ m'' = m')
    (hF : (m'.map fun (e : Ent) => (⟨e.ver, e.kind.shift (m.length + 1)⟩ : Ent)) = F)
    (h4 : AbsM P gds ops [c, b, e] (fun z => m ++ lay3 F B0 B1 z) n (k + 1) l (upd t dst (x.shift (m.length + 1))) t') : AbsM P gds ops [c, b, e] (fun z => m ++ lay3 F B0 B1 z) n k (⟨dst, callOp fo args tys, type, pos, after, none⟩ :: l) t t' := by
  have key : ∀ E : Ent, StepAt P gds t (m ++ [E]) ⟨dst, callOp fo args tys, type, pos, after, none⟩ (m ++ E :: F) (x.shift (m.length + 1)) := fun E => by
    have h := Spec.stepF (P := P) (gds := gds) (t := t) (m := m ++ [E]) (dst := dst) (tys := tys) (type := type) (pos := pos) (after := after) he hf hv hk hsp
    rw [List.length_append, List.length_singleton, hF, List.append_assoc] at h
    exact h
  exact AbsM.twoY h1 hc hs0 hs1 (key vacE) (key B0) h4
theorem AbsM.newY {sz : Nat} {row : List AV} {q : Option Nat} (h1 : dstB n dst = true) (hc : ((consL ops [c, b, e] k).all fun z => z == [false, false, false] || z == [true, false, false]) = true) (hs0 : setB [c, b, e] k [false, false, false] = [false, true, false]) (hs1 : setB [c, b, e] k [true, false, false] = [true, true, false])
    (h2 : alcA P (evo t) op = some (sz, row, q, p)) (hp : p) (hB : B0 = ⟨1, .row sz row⟩)
    (h4 : AbsM P gds ops [c, b, e] (fun z => m ++ lay3 F B0 B1 z) n (k + 1) l (upd t dst (alcV m.length 1 q)) t') : AbsM P gds ops [c, b, e] (fun z => m ++ lay3 F B0 B1 z) n k (⟨dst, op, type, pos, after, none⟩ :: l) t t' := by
  have key : ∀ T : Mem, StepAt P gds t (m ++ vacE :: T) ⟨dst, op, type, pos, after, none⟩ (m ++ B0 :: T) (alcV m.length 1 q) := fun T => by
    have h := alcA_step (P := P) (gds := gds) (t := t) (m := m ++ vacE :: T) (dst := dst) (type := type) (pos := pos) (after := after) h2 hp (id := m.length) (ver := 0) (k0 := .row 1 []) (by simp [vacE])
    rw [List.set_append_right _ _ (Nat.le_refl _), Nat.sub_self] at h
    rw [hB]; exact h
  exact AbsM.twoY h1 hc hs0 hs1 (key []) (key F) h4
theorem AbsM.stoY (h1 : dstB n dst = true) (hc : ((consL ops [c, b, e] k).all fun z => z == [true, true, false] || z == [true, true, false]) = true) (hs : setB [c, b, e] k [true, true, false] = [true, true, true])
    (h2 : evE P (evo t) B0 op = some (m.length, B1, x, p)) (hp : p)
    (h4 : AbsM P gds ops [c, b, e] (fun z => m ++ lay3 F B0 B1 z) n (k + 1) l (upd t dst x) t') : AbsM P gds ops [c, b, e] (fun z => m ++ lay3 F B0 B1 z) n k (⟨dst, op, type, pos, after, none⟩ :: l) t t' := by
  have key : StepAt P gds t (m ++ B0 :: F) ⟨dst, op, type, pos, after, none⟩ (m ++ B1 :: F) x := by
    have hid : (m ++ B0 :: F)[m.length]? = some B0 := by simp
    obtain ⟨q, g1, g2⟩ := evE_ok h2 hp hid
    have h := (effA_at (dst := dst) (type := type) (pos := pos) (after := after) g1 g2).stepAt (gds := gds) rfl
    rw [List.set_append_right _ _ (Nat.le_refl _), Nat.sub_self] at h
    exact h
  exact AbsM.twoY h1 hc hs hs key key h4
end
end Go.Vg
set_option maxHeartbeats 16000000
namespace Go.Proofs.Tryz
open Go.Vg

/-! the document's tasks -/
def sdA (pl : List Int) (x : Sd) : AV := .agg [.ints x.ts, .ints x.pp, .ints pl, .int x.at_]
theorem rcan_pure {r : Rm} (hz : Sz r) {f : St} (hv : RV r) (hf : SV r f) {pl : List Int} {x : Sd} (hx : SdOk r pl x) (hs : Zs (sdS pl x)) (t : Tk) : Pure Tryz.prog 62 [rmA r, stA f, sdA pl x, tkA t] (.tup [sdA pl (if canB r f (sdS pl x) x.at_ t = true then nxT r f pl x t else x), .bool (canB r f (sdS pl x) x.at_ t)]) := by
  have y1 : x.ts.length = r.ts.length := hx.1.ts
  have y2 : x.pp.length = r.pp.length := hx.1.pp
  have y3 := hf.pp
  have z1 := hz.ts
  have z2 := hz.pp
  have z3 := hz.wy
  have hcp := CopyState_spec (sdS pl x) hs
  have hF : ((cpM (sdS pl x)).map fun (e : Ent) => (⟨e.ver, e.kind.shift (5 + 1)⟩ : Ent)) = [⟨1, .row 3 []⟩, ⟨0, .row 3 [.agg [.osl 8 1 0 x.ts.length, .osl 9 1 0 x.pp.length, .osl 10 1 0 pl.length]]⟩, ⟨1, .row 1 (x.ts.map AV.int)⟩, ⟨1, .row 1 (x.pp.map AV.int)⟩, ⟨1, .row 1 (pl.map AV.int)⟩] := by
    simp only [sdS, List.map_cons, List.map_nil, Kind.shift, shiftL, AV.shift, shiftL_int, Nat.reduceAdd]
  have hVw : ∀ (m : Mem) (y : Sd) (n1 n2 : Nat), m[8]? = some ⟨1, .row 1 (y.ts.map AV.int)⟩ → m[9]? = some ⟨1, .row 1 (y.pp.map AV.int)⟩ → m[10]? = some ⟨1, .row 1 (pl.map AV.int)⟩ → n1 = y.ts.length → n2 = y.pp.length → ∀ b : Bool, Vw m (.tup [.agg [.osl 8 1 0 n1, .osl 9 1 0 n2, .osl 10 1 0 pl.length, .int y.at_], .bool b]) (.tup [sdA pl y, .bool b]) := fun m y n1 n2 h8 h9 h10 e1 e2 b => Vw.tup (.cons (Vw.agg (.cons (Vw.ointsR h8 e1) (.cons (Vw.ointsR h9 e2) (.cons (Vw.ointsR h10 rfl) (.cons (Vw.self trivial) .nil))))) (.cons (Vw.self trivial) .nil))
  refine Spec.frz ?_
  obtain ⟨kd, nu, ar⟩ := t
  obtain ⟨R, hR⟩ : ∃ R, (AV.tup [sdA pl (if canB r f (sdS pl x) x.at_ ⟨kd, nu, ar⟩ = true then nxT r f pl x ⟨kd, nu, ar⟩ else x), .bool (canB r f (sdS pl x) x.at_ ⟨kd, nu, ar⟩)]) = R := ⟨_, rfl⟩
  rw [hR]
  have hno : canB r f (sdS pl x) x.at_ ⟨kd, nu, ar⟩ = false → (AV.tup [sdA pl x, .bool false]) = R := fun h => by rw [← hR, h, if_neg (by simp)]
  have hyes : canB r f (sdS pl x) x.at_ ⟨kd, nu, ar⟩ = true → (AV.tup [sdA pl (nxT r f pl x ⟨kd, nu, ar⟩), .bool true]) = R := fun h => by rw [← hR, h, if_pos rfl]
  clear hR
  unfold canB at hno hyes
  simp only at hno hyes
  unfold sdS stA at hcp
  unfold rmA stA tkA
  rw [show sdA pl x = .agg [.ints x.ts, .ints x.pp, .ints pl, .int x.at_] from rfl]
  (refine Spec.of_bodyA Tryz.func62 rfl (by rw [Tryz.ntmps62]; simp) ?_; rw [Tryz.results62, Tryz.ntmps62]; simp only [entry, zipArgs, Nat.reduceAdd])
  ((refine x_pre @rmC.eq_1 ?_); (iterate 6 (refine x_nr @rmC.eq_1 ?_)); (refine x_nil @rmC.eq_1 ?_))
  (refine x_fzP @rmC.eq_1 (slq 4) ?_)
  (refine x_fzP @rmC.eq_1 (slq 5) ?_)
  (refine x_fzP @rmC.eq_1 (slq 6) ?_)
  (refine x_fzP @rmC.eq_1 (slq 7) ?_)
  repeat (first | apply Wp.seq | apply Wp.block)
  (apply Wp.runF3 2 6 7 [⟨1, .row 3 []⟩, ⟨0, .row 3 [.agg [.osl 8 1 0 x.ts.length, .osl 9 1 0 x.pp.length, .osl 10 1 0 pl.length]]⟩, ⟨1, .row 1 (x.ts.map AV.int)⟩, ⟨1, .row 1 (x.pp.map AV.int)⟩, ⟨1, .row 1 (pl.map AV.int)⟩] ⟨1, .row 4 [.agg [.emp, .emp, .emp, .int 0]]⟩ ⟨1, .row 4 [.agg [.osl 8 1 0 x.ts.length, .osl 9 1 0 x.pp.length, .osl 10 1 0 pl.length, .int x.at_]]⟩ mixed; (dsimp only [List.map] <;> exact rfl); exact rfl; kernel_rfl; exact rfl; ((refine x_fz1 @rmC.eq_1 ?_); (refine x_fz1 @rmC.eq_1 ?_); (apply AbsM.callY; exact rfl; kernel_rfl; exact rfl; exact rfl; (exact x_ev @rmC.eq_1); (exact (Enters.of Tryz.func18 rfl rfl)); (simp only [push_cast, seval, rmC] <;> first | exact rfl | assumption); (focus (simp only [push_cast, seval, rmC] <;> first | trivial | assumption | (simp; done))); (exact hcp); (first | exact hF | (simp only [List.length_cons, List.length_nil, Nat.reduceAdd]; exact hF)); dsimp only [upd, AV.shift, shiftL, List.length_cons, List.length_nil, Nat.reduceAdd]); (refine x_fz1 @rmC.eq_1 ?_); (refine x_fz1 @rmC.eq_1 ?_); (refine x_fz1 @rmC.eq_1 ?_); (apply AbsM.newY; exact rfl; kernel_rfl; exact rfl; exact rfl; (exact x_ev @rmC.eq_1); ((try simp only [push_cast, seval, rmC]) <;> exact sT); exact rfl; dsimp only [upd, alcV, List.length_cons, List.length_nil, Nat.reduceAdd]); (apply AbsM.stoY; exact rfl; kernel_rfl; exact rfl; (exact x_ev @rmC.eq_1); ((try simp only [push_cast, seval, rmC]) <;> exact sT); dsimp only [upd]); exact AbsM.nil); (try dsimp only [List.cons_append, List.nil_append]))
  (refine x_go @rmC.eq_1 ?_)
  by_cases h1 : kd = 1
  · subst h1
    simp only [show ¬((1 : Int) = 2) by omega, show ¬((1 : Int) = 3) by omega, if_false, if_true] at hno hyes
    unfold wkB wi at hno hyes
    simp only at hno hyes
    (refine x_gg @rmC.eq_1 ?_)
    (apply Wp.cond; (exact x_ev @rmC.eq_1))
    · intro hq
      (refine x_go @rmC.eq_1 ?_)
      (first | exact x_retA @rmC.eq_1 | refine x_retAZ @rmC.eq_1 ?_)
      rw [← hno (by revert hq; simp; omega)]
      exact hVw _ x _ _ rfl rfl rfl rfl rfl _
    · intro hq
      have hq : 0 ≤ nu ∧ nu < r.wy.length ∧ ar = 0 := by revert hq; simp; omega
      obtain ⟨q1, q2, rfl⟩ := hq
      obtain ⟨n, rfl⟩ : ∃ n : Nat, nu = n := ⟨nu.toNat, by omega⟩
      have q3 : n < r.wy.length := by omega
      have hgd := fun d => getD_wy (d := d) q3
      simp only [Int.toNat_natCast] at hno hyes
      have hm := hv.wyv (r.wy.getD n wy0) (by rw [show r.wy.getD n wy0 = r.wy[n] by simp [q3]]; exact List.getElem_mem _)
      have hps := hv.ps
      have hat := hx.2
      have hnx : nxT r f pl x ⟨1, (n : Int), 0⟩ = ⟨x.ts, x.pp, (r.wy.getD n wy0).a + (r.wy.getD n wy0).b - x.at_⟩ := by
        unfold nxT doS doA
        simp [sdS]
      rw [hnx] at hyes
      obtain ⟨y, hy⟩ : ∃ y, r.wy.getD n wy0 = y := ⟨_, rfl⟩
      simp only [hy] at hgd hno hyes hm
      (refine x_go (zc @rmC.eq_1 (zc @hgd (zc @wyA.eq_1 @Int.toNat_natCast))) ?_)
      (apply Wp.cond; (exact x_ev (zc @rmC.eq_1 (zc @hgd (zc @wyA.eq_1 @Int.toNat_natCast)))))
      · intro hq
        (refine x_go (zc @rmC.eq_1 (zc @hgd (zc @wyA.eq_1 @Int.toNat_natCast))) ?_)
        (first | exact x_retA (zc @rmC.eq_1 (zc @hgd (zc @wyA.eq_1 @Int.toNat_natCast))) | refine x_retAZ (zc @rmC.eq_1 (zc @hgd (zc @wyA.eq_1 @Int.toNat_natCast))) ?_)
        rw [← hno (by revert hq; simp; omega)]
        exact hVw _ x _ _ rfl rfl rfl rfl rfl _
      · intro hq
        (refine x_go (zc @rmC.eq_1 (zc @hgd (zc @wyA.eq_1 @Int.toNat_natCast))) ?_)
        (first | exact x_retA (zc @rmC.eq_1 (zc @hgd (zc @wyA.eq_1 @Int.toNat_natCast))) | refine x_retAZ (zc @rmC.eq_1 (zc @hgd (zc @wyA.eq_1 @Int.toNat_natCast))) ?_)
        rw [← hyes (by revert hq; simp; omega)]
        exact hVw _ ⟨x.ts, x.pp, y.a + y.b - x.at_⟩ _ _ rfl rfl rfl rfl rfl _
  · rw [if_neg h1] at hno hyes
    have e1 : decide (kd = 1) = false := decide_eq_false h1
    by_cases h2 : kd = 2
    · subst h2
      simp only [if_true] at hno hyes
      unfold tnB wi at hno hyes
      simp only at hno hyes
      (refine x_gg @rmC.eq_1 ?_)
      (apply Wp.cond; (exact x_ev @rmC.eq_1))
      · intro hq
        (refine x_go @rmC.eq_1 ?_)
        (first | exact x_retA @rmC.eq_1 | refine x_retAZ @rmC.eq_1 ?_)
        rw [← hno (by revert hq; simp; omega)]
        exact hVw _ x _ _ rfl rfl rfl rfl rfl _
      · intro hq
        have hq : 0 ≤ nu ∧ nu < r.ts.length := by revert hq; simp
        obtain ⟨q1, q2⟩ := hq
        obtain ⟨n, rfl⟩ : ∃ n : Nat, nu = n := ⟨nu.toNat, by omega⟩
        have q3 : n < r.ts.length := by omega
        simp only [Int.toNat_natCast] at hno hyes
        have hgd := getD_th r.ts n
        have hnx : nxT r f pl x ⟨2, (n : Int), ar⟩ = ⟨x.ts.set n ar, x.pp, x.at_⟩ := by
          unfold nxT doS doA
          simp [sdS]
        rw [hnx] at hyes
        obtain ⟨y, hy⟩ : ∃ y, r.ts.getD n th0 = y := ⟨_, rfl⟩
        have hxt : (sdS pl x).ts.getD n 0 = x.ts.getD n 0 := rfl
        obtain ⟨u, hxn⟩ : ∃ u, x.ts.getD n 0 = u := ⟨_, rfl⟩
        simp only [hy] at hgd
        simp only [hxt, hy, hxn] at hno hyes
        (refine x_go (zc @rmC.eq_1 (zc @hgd (zc @hy (zc @hxn (zc @thA.eq_1 @Int.toNat_natCast))))) ?_)
        (refine Wp.rnD 29 ?_; apply exAb; (((refine x_abn (zc @rmC.eq_1 (zc @hgd (zc @hy (zc @hxn (zc @thA.eq_1 @Int.toNat_natCast))))) ?_)); exact Abn.nil))
        (refine x_go (zc @rmC.eq_1 (zc @hgd (zc @hy (zc @hxn (zc @thA.eq_1 @Int.toNat_natCast))))) ?_)
        (apply Wp.cond; (exact x_ev (zc @rmC.eq_1 (zc @hgd (zc @hy (zc @hxn (zc @thA.eq_1 @Int.toNat_natCast)))))))
        · intro hq
          (refine x_go (zc @rmC.eq_1 (zc @hgd (zc @hy (zc @hxn (zc @thA.eq_1 @Int.toNat_natCast))))) ?_)
          (first | exact x_retA (zc @rmC.eq_1 (zc @hgd (zc @hy (zc @hxn (zc @thA.eq_1 @Int.toNat_natCast))))) | refine x_retAZ (zc @rmC.eq_1 (zc @hgd (zc @hy (zc @hxn (zc @thA.eq_1 @Int.toNat_natCast))))) ?_)
          rw [← hno (by revert hq; simp; omega)]
          exact hVw _ x _ _ rfl rfl rfl rfl rfl _
        · intro hq
          (refine x_go (zc @rmC.eq_1 (zc @hgd (zc @hy (zc @hxn (zc @thA.eq_1 @Int.toNat_natCast))))) ?_)
          (first | exact x_retA (zc @rmC.eq_1 (zc @hgd (zc @hy (zc @hxn (zc @thA.eq_1 @Int.toNat_natCast))))) | refine x_retAZ (zc @rmC.eq_1 (zc @hgd (zc @hy (zc @hxn (zc @thA.eq_1 @Int.toNat_natCast))))) ?_)
          rw [← hyes (by revert hq; simp; omega)]
          exact hVw _ ⟨x.ts.set n ar, x.pp, x.at_⟩ _ _ (by simp [List.map_set]) rfl rfl (by simp) rfl _
    · rw [if_neg h2] at hno hyes
      have e2 : decide (kd = 2) = false := decide_eq_false h2
      by_cases h3 : kd = 3
      · subst h3
        simp only [if_true] at hno hyes
        unfold ptB wi at hno hyes
        simp only at hno hyes
        by_cases hin : 0 ≤ nu ∧ nu < r.pp.length
        · obtain ⟨q1, q2⟩ := hin
          obtain ⟨n, rfl⟩ : ∃ n : Nat, nu = n := ⟨nu.toNat, by omega⟩
          have q3 : n < r.pp.length := by omega
          have q4 : n < x.pp.length := by omega
          have q5 : n < f.pp.length := by omega
          simp only [Int.toNat_natCast] at hno hyes
          have hgd := fun d => getD_pp (d := d) q3
          have hm := memPp q3
          have hw := (hz.ppn _ hm).2
          have hcd := (hv.ppv _ hm).2
          have d1 : decide ((n : Int) < 0) = false := decide_eq_false (by omega)
          have d2 : decide ((r.pp.length : Int) ≤ (n : Int)) = false := decide_eq_false (by omega)
          have d3 : (decide ((0 : Int) ≤ (n : Int)) && decide ((n : Int) ≤ (r.pp.length : Int) - 1)) = true := by simp; omega
          simp only [d3] at hno hyes
          have hnx : nxT r f pl x ⟨3, (n : Int), ar⟩ = ⟨x.ts, x.pp.set n (f.pp.getD n 0), x.at_⟩ := by
            unfold nxT doS doA
            simp [sdS]
          rw [hnx] at hyes
          have hxt : (sdS pl x).pp.getD n 0 = x.pp.getD n 0 := rfl
          obtain ⟨u, hxn⟩ : ∃ u, x.pp.getD n 0 = u := ⟨_, rfl⟩
          obtain ⟨z, hfn⟩ : ∃ z, f.pp.getD n 0 = z := ⟨_, rfl⟩
          obtain ⟨y, hy⟩ : ∃ y, r.pp.getD n pp0 = y := ⟨_, rfl⟩
          simp only [hy] at hgd hw hcd
          simp only [hxt, hxn, hfn, hy] at hno hyes
          have hh := Holding_pure (sdS pl x) hs y.wh (by omega) (by rw [show (sdS pl x).ts.length = r.ts.length from y1]; exact Lv_of hcd)
          unfold stA at hh
          simp only [sdS] at hh
          obtain ⟨b, hbb⟩ : ∃ b, hdB x.ts y.wh = b := ⟨_, rfl⟩
          simp only [show hdB (sdS pl x).ts y.wh = hdB x.ts y.wh from rfl, hbb] at hno hyes
          simp only [hbb] at hh
          (refine x_gg (zc @rmC.eq_1 (zc @d1 (zc @d2 (zc @hxn (zc @hfn (zc @Bool.false_or @Int.toNat_natCast)))))) ?_)
          (refine Wp.rnD 32 ?_; apply exAb; (((refine x_abz (zc @rmC.eq_1 (zc @d1 (zc @d2 (zc @hxn (zc @hfn (zc @Bool.false_or @Int.toNat_natCast)))))) ?_)); exact Abn.nil))
          (refine x_go (zc @rmC.eq_1 (zc @d1 (zc @d2 (zc @hxn (zc @hfn (zc @Bool.false_or @Int.toNat_natCast)))))) ?_)
          (apply Wp.cond; (exact x_ev (zc @rmC.eq_1 (zc @d1 (zc @d2 (zc @hxn (zc @hfn (zc @Bool.false_or @Int.toNat_natCast))))))))
          · intro hq
            (refine x_go (zc @rmC.eq_1 (zc @d1 (zc @d2 (zc @hxn (zc @hfn (zc @Bool.false_or @Int.toNat_natCast)))))) ?_)
            (first | exact x_retA (zc @rmC.eq_1 (zc @d1 (zc @d2 (zc @hxn (zc @hfn (zc @Bool.false_or @Int.toNat_natCast)))))) | refine x_retAZ (zc @rmC.eq_1 (zc @d1 (zc @d2 (zc @hxn (zc @hfn (zc @Bool.false_or @Int.toNat_natCast)))))) ?_)
            have hq' : ¬ ar = 0 ∨ u = z := by simpa using hq
            rw [← hno (by rcases hq' with h | h <;> simp [h])]
            exact hVw _ x _ _ rfl rfl rfl rfl rfl _
          · intro hq
            have hq : ar = 0 ∧ ¬ u = z := by revert hq; simp
            obtain ⟨rfl, hq2⟩ := hq
            have d4 : decide (u = z) = false := decide_eq_false hq2
            simp only [d4, decide_true, Bool.not_false, Bool.true_and, Bool.and_true] at hno hyes
            cases d5 : decide (z = -1) with
            | true =>
              rw [d5] at hno hyes
              (refine x_go (zc @rmC.eq_1 (zc @hxn (zc @hfn (zc @d5 (zc @Bool.false_or (zc @Bool.not_true (zc @Bool.false_and (zc @Int.toNat_natCast (zc @hgd (zc @hy @ppA.eq_1)))))))))) ?_)
              (refine Wp.rnD 21 ?_; apply exAb; (((refine x_abz (zc @rmC.eq_1 (zc @hxn (zc @hfn (zc @d5 (zc @Bool.false_or (zc @Bool.not_true (zc @Bool.false_and (zc @Int.toNat_natCast (zc @hgd (zc @hy @ppA.eq_1)))))))))) ?_); (first | ((apply Abn.pureP; (exact x_ev (zc @rmC.eq_1 (zc @hxn (zc @hfn (zc @d5 (zc @Bool.false_or (zc @Bool.not_true (zc @Bool.false_and (zc @Int.toNat_natCast (zc @hgd (zc @hy @ppA.eq_1))))))))))); (exact (Enters.of Tryz.func94 rfl rfl)); (exact hh); (exact x_al (zc @rmC.eq_1 (zc @hxn (zc @hfn (zc @d5 (zc @Bool.false_or (zc @Bool.not_true (zc @Bool.false_and (zc @Int.toNat_natCast (zc @hgd (zc @hy @ppA.eq_1))))))))))); (try dsimp only [putA, optG]))) | skip); (refine x_abz (zc @rmC.eq_1 (zc @hxn (zc @hfn (zc @d5 (zc @Bool.false_or (zc @Bool.not_true (zc @Bool.false_and (zc @Int.toNat_natCast (zc @hgd (zc @hy @ppA.eq_1)))))))))) ?_)); exact Abn.nil))
              (refine x_gg (zc @rmC.eq_1 (zc @hxn (zc @hfn (zc @d5 (zc @Bool.false_or (zc @Bool.not_true (zc @Bool.false_and (zc @Int.toNat_natCast (zc @hgd (zc @hy @ppA.eq_1)))))))))) ?_)
              (first | exact x_retA (zc @rmC.eq_1 (zc @hxn (zc @hfn (zc @d5 (zc @Bool.false_or (zc @Bool.not_true (zc @Bool.false_and (zc @Int.toNat_natCast (zc @hgd (zc @hy @ppA.eq_1)))))))))) | refine x_retAZ (zc @rmC.eq_1 (zc @hxn (zc @hfn (zc @d5 (zc @Bool.false_or (zc @Bool.not_true (zc @Bool.false_and (zc @Int.toNat_natCast (zc @hgd (zc @hy @ppA.eq_1)))))))))) ?_)
              rw [← hyes (by simp)]
              exact hVw _ ⟨x.ts, x.pp.set n z, x.at_⟩ _ _ rfl (by simp [List.map_set]) rfl rfl (by simp) _
            | false =>
              rw [d5] at hno hyes
              simp only [Bool.false_or] at hno hyes
              cases d6 : decide (z = x.at_) with
              | true =>
                rw [d6] at hno hyes
                simp only [Bool.true_and] at hno hyes
                (refine x_go (zc @rmC.eq_1 (zc @hxn (zc @hfn (zc @d5 (zc @d6 (zc @Bool.false_or (zc @Bool.not_true (zc @Bool.not_false (zc @Bool.true_and (zc @Bool.false_and (zc @Int.toNat_natCast (zc @hgd (zc @hy @ppA.eq_1))))))))))))) ?_)
                (refine Wp.rnD 21 ?_; apply exAb; (((refine x_abz (zc @rmC.eq_1 (zc @hxn (zc @hfn (zc @d5 (zc @d6 (zc @Bool.false_or (zc @Bool.not_true (zc @Bool.not_false (zc @Bool.true_and (zc @Bool.false_and (zc @Int.toNat_natCast (zc @hgd (zc @hy @ppA.eq_1))))))))))))) ?_); (first | ((apply Abn.pureP; (exact x_ev (zc @rmC.eq_1 (zc @hxn (zc @hfn (zc @d5 (zc @d6 (zc @Bool.false_or (zc @Bool.not_true (zc @Bool.not_false (zc @Bool.true_and (zc @Bool.false_and (zc @Int.toNat_natCast (zc @hgd (zc @hy @ppA.eq_1)))))))))))))); (exact (Enters.of Tryz.func94 rfl rfl)); (exact hh); (exact x_al (zc @rmC.eq_1 (zc @hxn (zc @hfn (zc @d5 (zc @d6 (zc @Bool.false_or (zc @Bool.not_true (zc @Bool.not_false (zc @Bool.true_and (zc @Bool.false_and (zc @Int.toNat_natCast (zc @hgd (zc @hy @ppA.eq_1)))))))))))))); (try dsimp only [putA, optG]))) | skip); (refine x_abz (zc @rmC.eq_1 (zc @hxn (zc @hfn (zc @d5 (zc @d6 (zc @Bool.false_or (zc @Bool.not_true (zc @Bool.not_false (zc @Bool.true_and (zc @Bool.false_and (zc @Int.toNat_natCast (zc @hgd (zc @hy @ppA.eq_1))))))))))))) ?_)); exact Abn.nil))
                (refine x_go (zc @rmC.eq_1 (zc @hxn (zc @hfn (zc @d5 (zc @d6 (zc @Bool.false_or (zc @Bool.not_true (zc @Bool.not_false (zc @Bool.true_and (zc @Bool.false_and (zc @Int.toNat_natCast (zc @hgd (zc @hy @ppA.eq_1))))))))))))) ?_)
                (apply Wp.cond; (exact x_ev (zc @rmC.eq_1 (zc @hxn (zc @hfn (zc @d5 (zc @d6 (zc @Bool.false_or (zc @Bool.not_true (zc @Bool.not_false (zc @Bool.true_and (zc @Bool.false_and (zc @Int.toNat_natCast (zc @hgd (zc @hy @ppA.eq_1)))))))))))))))
                · intro hq
                  (refine x_go (zc @rmC.eq_1 (zc @hxn (zc @hfn (zc @d5 (zc @d6 (zc @Bool.false_or (zc @Bool.not_true (zc @Bool.not_false (zc @Bool.true_and (zc @Bool.false_and (zc @Int.toNat_natCast (zc @hgd (zc @hy @ppA.eq_1))))))))))))) ?_)
                  (first | exact x_retA (zc @rmC.eq_1 (zc @hxn (zc @hfn (zc @d5 (zc @d6 (zc @Bool.false_or (zc @Bool.not_true (zc @Bool.not_false (zc @Bool.true_and (zc @Bool.false_and (zc @Int.toNat_natCast (zc @hgd (zc @hy @ppA.eq_1))))))))))))) | refine x_retAZ (zc @rmC.eq_1 (zc @hxn (zc @hfn (zc @d5 (zc @d6 (zc @Bool.false_or (zc @Bool.not_true (zc @Bool.not_false (zc @Bool.true_and (zc @Bool.false_and (zc @Int.toNat_natCast (zc @hgd (zc @hy @ppA.eq_1))))))))))))) ?_)
                  rw [← hno (by revert hq; simp)]
                  exact hVw _ x _ _ rfl rfl rfl rfl rfl _
                · intro hq
                  (refine x_go (zc @rmC.eq_1 (zc @hxn (zc @hfn (zc @d5 (zc @d6 (zc @Bool.false_or (zc @Bool.not_true (zc @Bool.not_false (zc @Bool.true_and (zc @Bool.false_and (zc @Int.toNat_natCast (zc @hgd (zc @hy @ppA.eq_1))))))))))))) ?_)
                  (first | exact x_retA (zc @rmC.eq_1 (zc @hxn (zc @hfn (zc @d5 (zc @d6 (zc @Bool.false_or (zc @Bool.not_true (zc @Bool.not_false (zc @Bool.true_and (zc @Bool.false_and (zc @Int.toNat_natCast (zc @hgd (zc @hy @ppA.eq_1))))))))))))) | refine x_retAZ (zc @rmC.eq_1 (zc @hxn (zc @hfn (zc @d5 (zc @d6 (zc @Bool.false_or (zc @Bool.not_true (zc @Bool.not_false (zc @Bool.true_and (zc @Bool.false_and (zc @Int.toNat_natCast (zc @hgd (zc @hy @ppA.eq_1))))))))))))) ?_)
                  rw [← hyes (by revert hq; simp)]
                  exact hVw _ ⟨x.ts, x.pp.set n z, x.at_⟩ _ _ rfl (by simp [List.map_set]) rfl rfl (by simp) _
              | false =>
                rw [d6] at hno hyes
                (refine x_go (zc @rmC.eq_1 (zc @hxn (zc @hfn (zc @d5 (zc @d6 (zc @Bool.false_or (zc @Bool.true_or (zc @Bool.not_true (zc @Bool.not_false (zc @Bool.true_and (zc @Bool.false_and (zc @Int.toNat_natCast (zc @hgd (zc @hy @ppA.eq_1)))))))))))))) ?_)
                (refine Wp.rnD 21 ?_; apply exAb; (((refine x_abz (zc @rmC.eq_1 (zc @hxn (zc @hfn (zc @d5 (zc @d6 (zc @Bool.false_or (zc @Bool.true_or (zc @Bool.not_true (zc @Bool.not_false (zc @Bool.true_and (zc @Bool.false_and (zc @Int.toNat_natCast (zc @hgd (zc @hy @ppA.eq_1)))))))))))))) ?_); (first | ((apply Abn.pureP; (exact x_ev (zc @rmC.eq_1 (zc @hxn (zc @hfn (zc @d5 (zc @d6 (zc @Bool.false_or (zc @Bool.true_or (zc @Bool.not_true (zc @Bool.not_false (zc @Bool.true_and (zc @Bool.false_and (zc @Int.toNat_natCast (zc @hgd (zc @hy @ppA.eq_1))))))))))))))); (exact (Enters.of Tryz.func94 rfl rfl)); (exact hh); (exact x_al (zc @rmC.eq_1 (zc @hxn (zc @hfn (zc @d5 (zc @d6 (zc @Bool.false_or (zc @Bool.true_or (zc @Bool.not_true (zc @Bool.not_false (zc @Bool.true_and (zc @Bool.false_and (zc @Int.toNat_natCast (zc @hgd (zc @hy @ppA.eq_1))))))))))))))); (try dsimp only [putA, optG]))) | skip); (refine x_abz (zc @rmC.eq_1 (zc @hxn (zc @hfn (zc @d5 (zc @d6 (zc @Bool.false_or (zc @Bool.true_or (zc @Bool.not_true (zc @Bool.not_false (zc @Bool.true_and (zc @Bool.false_and (zc @Int.toNat_natCast (zc @hgd (zc @hy @ppA.eq_1)))))))))))))) ?_)); exact Abn.nil))
                (refine x_gg (zc @rmC.eq_1 (zc @hxn (zc @hfn (zc @d5 (zc @d6 (zc @Bool.false_or (zc @Bool.true_or (zc @Bool.not_true (zc @Bool.not_false (zc @Bool.true_and (zc @Bool.false_and (zc @Int.toNat_natCast (zc @hgd (zc @hy @ppA.eq_1)))))))))))))) ?_)
                (first | exact x_retA (zc @rmC.eq_1 (zc @hxn (zc @hfn (zc @d5 (zc @d6 (zc @Bool.false_or (zc @Bool.true_or (zc @Bool.not_true (zc @Bool.not_false (zc @Bool.true_and (zc @Bool.false_and (zc @Int.toNat_natCast (zc @hgd (zc @hy @ppA.eq_1)))))))))))))) | refine x_retAZ (zc @rmC.eq_1 (zc @hxn (zc @hfn (zc @d5 (zc @d6 (zc @Bool.false_or (zc @Bool.true_or (zc @Bool.not_true (zc @Bool.not_false (zc @Bool.true_and (zc @Bool.false_and (zc @Int.toNat_natCast (zc @hgd (zc @hy @ppA.eq_1)))))))))))))) ?_)
                rw [← hno (by simp)]
                exact hVw _ x _ _ rfl rfl rfl rfl rfl _
        · have hw : (decide ((0 : Int) ≤ nu) && decide (nu ≤ (r.pp.length : Int) - 1)) = false := by
            simp; omega
          rw [hw] at hno
          by_cases hneg : nu < 0
          · have d1 : decide (nu < 0) = true := decide_eq_true hneg
            (refine x_gg (zc @rmC.eq_1 (zc @d1 @Bool.true_or)) ?_)
            (refine Wp.rnD 32 ?_; apply exAb; (((refine x_abz (zc @rmC.eq_1 (zc @d1 @Bool.true_or)) ?_)); exact Abn.nil))
            (refine x_gg (zc @rmC.eq_1 (zc @d1 @Bool.true_or)) ?_)
            (first | exact x_retA (zc @rmC.eq_1 (zc @d1 @Bool.true_or)) | refine x_retAZ (zc @rmC.eq_1 (zc @d1 @Bool.true_or)) ?_)
            rw [← hno (by simp)]
            exact hVw _ x _ _ rfl rfl rfl rfl rfl _
          · have d1 : decide (nu < 0) = false := decide_eq_false hneg
            have d2 : decide ((r.pp.length : Int) ≤ nu) = true := decide_eq_true (by omega)
            (refine x_gg (zc @rmC.eq_1 (zc @d1 (zc @d2 (zc @Bool.true_or @Bool.false_or)))) ?_)
            (refine Wp.rnD 32 ?_; apply exAb; (((refine x_abz (zc @rmC.eq_1 (zc @d1 (zc @d2 (zc @Bool.true_or @Bool.false_or)))) ?_)); exact Abn.nil))
            (refine x_gg (zc @rmC.eq_1 (zc @d1 (zc @d2 (zc @Bool.true_or @Bool.false_or)))) ?_)
            (first | exact x_retA (zc @rmC.eq_1 (zc @d1 (zc @d2 (zc @Bool.true_or @Bool.false_or)))) | refine x_retAZ (zc @rmC.eq_1 (zc @d1 (zc @d2 (zc @Bool.true_or @Bool.false_or)))) ?_)
            rw [← hno (by simp)]
            exact hVw _ x _ _ rfl rfl rfl rfl rfl _
      · rw [if_neg h3] at hno hyes
        have e3 : decide (kd = 3) = false := decide_eq_false h3
        (refine x_gg (zc @rmC.eq_1 (zc @e1 (zc @e2 @e3))) ?_)
        (first | exact x_retA (zc @rmC.eq_1 (zc @e1 (zc @e2 @e3))) | refine x_retAZ (zc @rmC.eq_1 (zc @e1 (zc @e2 @e3))) ?_)
        rw [← hno rfl]
        exact hVw _ x _ _ rfl rfl rfl rfl rfl _
end Go.Proofs.Tryz
