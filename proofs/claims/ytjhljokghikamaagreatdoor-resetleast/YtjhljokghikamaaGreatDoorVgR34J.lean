/- A part of the proof of ResetLeast: contracts of functions, with plain laws that they need. -/
import Derived.Test.YtjhljokghikamaaGreatDoorVgR23J
set_option linter.all false
set_option maxHeartbeats 16000000
namespace Go.Proofs.Tryz
open Go.Vg
theorem keyedStr : Maps.Keyed Tryz.prog 9 := kdB_ok (by kernel_rfl)
theorem goodStr {s : ByteArray} (h : s.size ≤ 1000) : goodK Tryz.prog 9 (.string s) = true := by
 simp [goodK, WideMaps.keyOf_string_mk (P := Tryz.prog) (k := 9) Tryz.underlying9 (s := s) (by unfold maxLen; omega)]
theorem sdK_size {r : Rm} (hv : RV r) {pl : List Int} {x : Sd} (hx : SdOk r pl x) : (sdK x).size ≤ 1000 := by
 have h1 := kyB_size x.at_ (x.ts ++ x.pp)
 have h2 : x.ts.length = r.ts.length := hx.1.ts
 have h3 : x.pp.length = r.pp.length := hx.1.pp
 have h4 := hv.ts
 have h5 := hv.pp
 rw [List.length_append] at h1
 unfold sdK
 omega
theorem goodL_mpK {r : Rm} (hv : RV r) {pl : List Int} {S : SL Sd} (h : allOk r pl S) : goodL Tryz.prog 9 (mpK sdK S) = true := by
 unfold mpK
 have hL : ∀ j ∈ List.range S.length, (sdK (sc S j)).size ≤ 1000 := fun j hj => sdK_size hv (h j (List.mem_range.1 hj))
 generalize List.range S.length = L at hL
 induction L with
 | nil => rfl
 | cons a l ih =>
  simp only [List.map_cons, goodL, goodStr (hL a (by simp))]
  exact ih fun j hj => hL j (by simp [hj])
theorem updL_new : ∀ (l : List (Value × AV)) (k : Value) (x : AV), findL l k = none → updL l k x = l ++ [(k, x)]
 | [], k, x, _ => rfl
 | (k0, y) :: l, k, x, h => by
  simp only [findL, updL, List.cons_append] at h ⊢
  cases hb : eqKey k0 k with
  | true => rw [hb] at h; cases h
  | false => rw [hb] at h; simp only at h ⊢; rw [updL_new l k x h]
theorem rev_swap {l : List Tk} {i : Nat} (hi : i < l.length) {A : List Tk} (hA : A = (List.range l.length).map fun k : Nat => if k < i ∨ l.length - 1 - k < i then l.getD (l.length - 1 - k) tk0 else l.getD k tk0) (hlt : i < l.length - 1 - i) :
  (A.set i (A.getD (l.length - 1 - i) tk0)).set (l.length - 1 - i) (A.getD i tk0) = (List.range l.length).map fun k : Nat => if k < i + 1 ∨ l.length - 1 - k < i + 1 then l.getD (l.length - 1 - k) tk0 else l.getD k tk0 := by
 have hAl : A.length = l.length := by rw [hA]; simp
 have hAg : ∀ k, k < l.length → A.getD k tk0 = if k < i ∨ l.length - 1 - k < i then l.getD (l.length - 1 - k) tk0 else l.getD k tk0 := fun k hk => by rw [hA]; simp [hk]
 apply List.ext_getElem
 ·simp [hAl]
 ·intro k h1 h2
  have hk : k < l.length := by simpa using h2
  have hA1 : A.getD i tk0 = l.getD i tk0 := by have := hAg i hi; rw [if_neg (by omega)] at this; exact this
  have hA2 : A.getD (l.length - 1 - i) tk0 = l.getD (l.length - 1 - i) tk0 := by have := hAg (l.length - 1 - i) (by omega); rw [if_neg (by omega)] at this; exact this
  simp only [List.getElem_set, hA1, hA2]
  have e3 : A[k]'(by omega) = A.getD k tk0 := by simp [show k < A.length by omega]
  have hA3 := hAg k hk
  rw [e3, hA3]
  simp only [List.getElem_map, List.getElem_range]
  by_cases q1 : l.length - 1 - i = k
  ·rw [if_pos q1, if_pos (by omega), show l.length - 1 - k = i by omega]
  ·rw [if_neg q1]
   by_cases q2 : i = k
   ·rw [if_pos q2, if_pos (by omega), show l.length - 1 - k = l.length - 1 - i by omega]
   ·rw [if_neg q2]
    by_cases q3 : k < i ∨ l.length - 1 - k < i
    ·rw [if_pos q3, if_pos (by omega)]
    ·rw [if_neg q3, if_neg (by omega)]
def rvN (l : List Tk) (i : Nat) : List Tk := (List.range l.length).map fun k : Nat => if k < i ∨ l.length - 1 - k < i then l.getD (l.length - 1 - k) tk0 else l.getD k tk0
theorem rvN_len (l : List Tk) (i : Nat) : (rvN l i).length = l.length := by simp [rvN]
theorem rvN_zero (l : List Tk) : rvN l 0 = l := by
 apply List.ext_getElem
 ·simp [rvN]
 ·intro k h1 h2
  simp [rvN, h2]
theorem rvN_all (l : List Tk) {i : Nat} (h : l.length - 1 - i ≤ i) : rvN l i = l.reverse := by
 apply List.ext_getElem
 ·simp [rvN]
 ·intro k h1 h2
  have hk : k < l.length := by simpa using h2
  simp only [rvN, List.getElem_map, List.getElem_range, List.getElem_reverse]
  by_cases q : k < i ∨ l.length - 1 - k < i
  ·rw [if_pos q]; simp [show l.length - 1 - k < l.length by omega]
  ·rw [if_neg q]
   have : l.length - 1 - k = k := by omega
   simp [this, hk]
theorem rvN_succ (l : List Tk) {i : Nat} (h : i < l.length - 1 - i) : ((rvN l i).set i ((rvN l i).getD (l.length - 1 - i) tk0)).set (l.length - 1 - i) ((rvN l i).getD i tk0) = rvN l (i + 1) := rev_swap (by omega) rfl h
theorem getD_tk {l : List Tk} {i : Nat} (d : AV) (h : i < l.length) : (l.map tkA).getD i d = tkA (l.getD i tk0) := getD_mapE tkA l tk0 h
theorem rev_spec {a0 a1 a2 a3 a4 a5 a6 a7 a8 a9 : Ent} (v : Nat) (l : List Tk) (hl : l.length ≤ 100000) : Go.Vg.Spec Tryz.prog 55 [.osl 10 v 0 l.length] [a0, a1, a2, a3, a4, a5, a6, a7, a8, a9, ⟨v, .row 3 (l.map tkA)⟩] (fun x m' => x = .tup [] ∧ m' = [a0, a1, a2, a3, a4, a5, a6, a7, a8, a9, ⟨v, .row 3 (l.reverse.map tkA)⟩]) := by
 (refine Spec.of_bodyA Tryz.func55 rfl (by rw [Tryz.ntmps55]; simp) ?_; rw [Tryz.results55, Tryz.ntmps55]; simp only [entry, zipArgs, Nat.reduceAdd])
 (refine w_go ?_)
 refine Wp.loop (fun (k : Nat) => { t := [(0, .osl 10 v 0 l.length), (2, .int k), (3, .int ((l.length : Int) - 1 - k))], m := [a0, a1, a2, a3, a4, a5, a6, a7, a8, a9, ⟨v, .row 3 ((rvN l k).map tkA)⟩], n := 28 }) (fun k => k ≤ l.length) (fun k => l.length - k) 0 ?_ ?_ ?_
 ·(refine Le.of ?_ ?_ rfl rfl <;> (try simp only [push_cast, seval]) <;> (try (with_reducible rfl)))
  all_goals first
   | (rw [rvN_zero]; done)
   | rfl
   | simp
 ·simp
 ·intro k hk
  (refine w_go ?_)
  (apply Wp.cond; (exact w_ev))
  ·intro hc
   have hc : (k : Int) < (l.length : Int) - 1 - k := by simpa using hc
   have hst := rvN_succ l (i := k) (by omega)
   have hul := rvN_len l k
   obtain ⟨j, hj⟩ : ∃ j : Nat, l.length - 1 - k = j := ⟨_, rfl⟩
   have hj2 : (l.length : Int) - 1 - (k : Int) = (j : Int) := by omega
   rw [hj] at hst
   rw [hj2]
   generalize rvN l k = U at hst hul
   have g1 := fun d => getD_tk (l := U) (i := k) d (by omega)
   have g2 := fun d => getD_tk (l := U) (i := j) d (by omega)
   generalize hx : U.getD k tk0 = x at hst g1
   generalize hy : U.getD j tk0 = y at hst g2
   have hss : ∀ (l : List Tk) (i : Nat) (x : Tk), (l.map tkA).set i (.agg [.int x.kd, .int x.nu, .int x.ar]) = (l.set i x).map tkA := fun l i x => by rw [List.map_set]; rfl
   have hjl : j < U.length := by omega
   have g3 := fun d => getD_tk (l := U.set k y) (i := j) d (by rw [List.length_set]; omega)
   (refine x_go (zc @g1 (zc @g2 (zc @g3 (zc @drpS (zc @drpZ (zc @hss (zc @tkA.eq_1 (zc @hul (zc @lenMp @lenSt))))))))) ?_)
   (apply Wp.runW 13 15 (fun _ => [a0, a1, a2, a3, a4, a5, a6, a7, a8, a9, ⟨v, .row 3 ((U.set k y).map tkA)⟩]) mixed; (dsimp only [List.map] <;> exact rfl); exact rfl; kernel_rfl; kernel_rfl; (dsimp only; ((repeat (refine x_wn (zc @g1 (zc @g2 (zc @g3 (zc @drpS (zc @drpZ (zc @hss (zc @tkA.eq_1 (zc @hul (zc @lenMp @lenSt))))))))) ?_)); (refine x_we (zc @g1 (zc @g2 (zc @g3 (zc @drpS (zc @drpZ (zc @hss (zc @tkA.eq_1 (zc @hul (zc @lenMp @lenSt))))))))) ?_); (repeat (refine x_wn (zc @g1 (zc @g2 (zc @g3 (zc @drpS (zc @drpZ (zc @hss (zc @tkA.eq_1 (zc @hul (zc @lenMp @lenSt))))))))) ?_)); (refine x_we (zc @g1 (zc @g2 (zc @g3 (zc @drpS (zc @drpZ (zc @hss (zc @tkA.eq_1 (zc @hul (zc @lenMp @lenSt))))))))) ?_); (repeat (refine x_wn (zc @g1 (zc @g2 (zc @g3 (zc @drpS (zc @drpZ (zc @hss (zc @tkA.eq_1 (zc @hul (zc @lenMp @lenSt))))))))) ?_)); (refine x_w1 (zc @g1 (zc @g2 (zc @g3 (zc @drpS (zc @drpZ (zc @hss (zc @tkA.eq_1 (zc @hul (zc @lenMp @lenSt))))))))) ?_); (refine x_wn (zc @g1 (zc @g2 (zc @g3 (zc @drpS (zc @drpZ (zc @hss (zc @tkA.eq_1 (zc @hul (zc @lenMp @lenSt))))))))) ?_); (refine x_w2 (zc @g1 (zc @g2 (zc @g3 (zc @drpS (zc @drpZ (zc @hss (zc @tkA.eq_1 (zc @hul (zc @lenMp @lenSt))))))))) ?_)); exact AbW.nil))
   (refine x_go (zc @g1 (zc @g2 (zc @g3 (zc @drpS (zc @drpZ (zc @hss (zc @tkA.eq_1 (zc @hul (zc @lenMp @lenSt))))))))) ?_)
   refine ⟨k + 1, ?_, by omega, by omega⟩
   rw [← hst]
   (refine Le.of ?_ ?_ rfl rfl <;> (try simp only [push_cast, seval, g1, g2, g3, List.drop_succ_cons, List.drop_zero, hss, tkA, hul, List.length_map, List.length_set]) <;> (try (with_reducible rfl)))
   all_goals (try (congr 2; omega))
  ·intro hc
   have hc : ¬ (k : Int) < (l.length : Int) - 1 - k := by simpa using hc
   have hall := rvN_all l (i := k) (by omega)
   rw [hall]
   (refine w_go ?_)
   apply leaveAN; exact rfl; (exact w_ev); ((exact w_cl)); (try simp only [push_cast, seval])
end Go.Proofs.Tryz
set_option maxHeartbeats 16000000
namespace Go.Proofs.Tryz
open Go.Vg
theorem do_spec {r : Rm} (hv : RV r) {f : St} (hf : SV r f) {s : St} (hs : SV r s) {a : Int} (ha : 0 ≤ a ∧ a ≤ 100) {t : Tk} (hc : canB r f s a t = true) {a0 a1 a2 a3 a4 a5 : Ent} (h0 : a0.kind.ok 10) (h1 : a1.kind.ok 10) (h2 : a2.kind.ok 10) (h3 : a3.kind.ok 10) (h4 : a4.kind.ok 10) (h5 : a5.kind.ok 10) (v6 v7 v8 v9 : Nat) :
  Go.Vg.Spec Tryz.prog 54 [.optr 6 v6 0 0, tkA t] (doM a0 a1 a2 a3 a4 a5 r f v6 v7 v8 v9 s.ts.length s.pp.length s.pl.length s a) (fun x m' => x = .tup [] ∧ m' = doM a0 a1 a2 a3 a4 a5 r f v6 v7 v8 v9 s.ts.length s.pp.length s.pl.length (doS r f s a t) (doA r a t)) := by
 obtain ⟨kd, nu, ar⟩ := t
 unfold canB at hc
 simp only at hc
 unfold doS doA tkA
 simp only
 have hps := hv.ps
 split at hc
 ·rename_i hk
  subst hk
  simp only [show ¬((1 : Int) = 2) by omega, show ¬((1 : Int) = 3) by omega, if_false, if_true]
  unfold wkB wi at hc
  simp only [Bool.and_eq_true, Bool.or_eq_true, decide_eq_true_eq] at hc
  obtain ⟨⟨_, q1, q2⟩, q3⟩ := hc
  obtain ⟨n, rfl⟩ : ∃ n : Nat, nu = n := ⟨nu.toNat, by omega⟩
  simp only [Int.toNat_natCast] at *
  have hn : n < r.wy.length := by omega
  have hm := hv.wyv (r.wy.getD n wy0) (by rw [show r.wy.getD n wy0 = r.wy[n] by simp [hn]]; exact List.getElem_mem _)
  exact do_walk r f s a n ar hn ⟨by omega, by omega, ha⟩ h0 h1 h2 h3 h4 h5 v6 v7 v8 v9 _ _ _
 ·rename_i hk1
  split at hc
  ·rename_i hk
   subst hk
   simp only [show ¬((2 : Int) = 1) by omega, if_false, if_true]
   unfold tnB wi at hc
   simp only [Bool.and_eq_true, decide_eq_true_eq] at hc
   obtain ⟨⟨q1, q2⟩, _⟩ := hc
   obtain ⟨n, rfl⟩ : ∃ n : Nat, nu = n := ⟨nu.toNat, by omega⟩
   simp only [Int.toNat_natCast]
   exact do_turn r f s a n ar (by have := hs.ts; omega) h0 h1 h2 h3 h4 h5 v6 v7 v8 v9 _ _
  ·rename_i hk2
   split at hc
   ·rename_i hk
    subst hk
    simp only [show ¬((3 : Int) = 1) by omega, show ¬((3 : Int) = 2) by omega, if_false, if_true]
    unfold ptB wi at hc
    simp only [Bool.and_eq_true, decide_eq_true_eq] at hc
    obtain ⟨⟨⟨_, q1, q2⟩, _⟩, _⟩ := hc
    obtain ⟨n, rfl⟩ : ∃ n : Nat, nu = n := ⟨nu.toNat, by omega⟩
    simp only [Int.toNat_natCast]
    exact do_put r f s a n ar (by have := hs.pp; omega) (by have := hf.pp; omega) h0 h1 h2 h3 h4 h5 v6 v7 v8 v9 _ _
   ·cases hc
def ovB (f : St) (pl : List Int) (x : Sd) : Bool := decide (x.at_ = 0) && rsB f (sdS pl x)
def enN (f : St) (pl : List Int) (S : SL Sd) (n : Nat) : Option Nat := (List.range n).find? fun j => ovB f pl (sc S j)
def enV (f : St) (pl : List Int) (S : SL Sd) (n : Nat) : Int := match enN f pl S n with
 | some j => j
 | none => -1
def pth (S : SL Sd) : Nat → Nat → List Nat
 | 0, _ => []
 | n + 1, i => if i = 0 then [] else st' S i :: pth S n (sb S i)
def lsB (r : Rm) (s : St) : Sd := ⟨s.ts, s.pp, 0⟩
def lsR (r : Rm) (s : St) : Option (SL Sd) := srun (tkL r).length (nxR r (bgS r) s.pl) 4000 4001 0 [(lsB r s, 0, 0)]
def leT (r : Rm) (s : St) : Int × List Tk := match lsR r s with
 | none => (2, [])
 | some S => match enN (bgS r) s.pl S S.length with
  | none => (90, [])
  | some e => (0, ((pth S e e).map fun k => (tkL r).getD k tk0).reverse)
def leA (r : Rm) (s : St) : AV := if begE r s = 0 then .tup [.lst 3 ((leT r s).2.map tkA), .int (leT r s).1] else .tup [.lst 3 [], .int (begE r s)]
theorem enN_succ (f : St) (pl : List Int) (S : SL Sd) (n : Nat) : enN f pl S (n + 1) = match enN f pl S n with
  | some j => some j
  | none => if ovB f pl (sc S n) = true then some n else none := by
 unfold enN
 rw [List.range_succ, List.find?_append]
 cases (List.range n).find? fun j => ovB f pl (sc S j) with
 | some j => rfl
 | none =>
  simp only [Option.none_or, List.find?_cons, List.find?_nil]
  cases ovB f pl (sc S n) <;> rfl
theorem enN_old {f : St} {pl : List Int} {S S' : SL Sd} {n : Nat} (h : ∀ j, j < n → sc S' j = sc S j) : enN f pl S' n = enN f pl S n := by
 induction n with
 | zero => rfl
 | succ n ih => rw [enN_succ, enN_succ, ih fun j hj => h j (by omega), h n (by omega)]
theorem enN_lt {f : St} {pl : List Int} {S : SL Sd} {n j : Nat} (h : enN f pl S n = some j) : j < n ∧ ovB f pl (sc S j) = true := by
 unfold enN at h
 exact ⟨List.mem_range.1 (List.mem_of_find?_eq_some h), by simpa using List.find?_some h⟩
theorem sstep_old {R : Sd → Nat → Sd} {M : Nat} {S S' : SL Sd} {i k : Nat} (h : sstep R M S i k = some S') : ∀ j, j < S.length → S'.getD j (default, 0, 0) = S.getD j (default, 0, 0) := by
 intro j hj
 unfold sstep at h
 split at h
 ·cases h; rfl
 ·split at h
  ·cases h
  ·cases h; exact sc_old hj
theorem srow_old {R : Sd → Nat → Sd} {M : Nat} {S : SL Sd} {i : Nat} : ∀ (k : Nat) {S' : SL Sd}, srow R M S i k = some S' → ∀ j, j < S.length → S'.getD j (default, 0, 0) = S.getD j (default, 0, 0)
 | 0, S', h, j, hj => by cases h; rfl
 | k + 1, S', h, j, hj => by
  unfold srow at h
  obtain ⟨S1, q1, q2⟩ := Option.bind_eq_some_iff.1 h
  rw [sstep_old q2 j (by have := (srow_len R k q1).1; omega), srow_old k q1 j hj]
theorem srow_none {R : Sd → Nat → Sd} {M : Nat} {S : SL Sd} {i : Nat} {k : Nat} (h : srow R M S i k = none) : ∀ n, srow R M S i (k + n) = none
 | 0 => h
 | n + 1 => by
  show (srow R M S i (k + n)).bind _ = none
  rw [srow_none h n]; rfl
end Go.Proofs.Tryz
set_option maxHeartbeats 64000000
namespace Go.Proofs.Tryz
open Go.Vg
theorem enV_succ (f : St) (pl : List Int) (S : SL Sd) (i : Nat) : enV f pl S (i + 1) = if (decide (enV f pl S i < 0) && decide ((sc S i).at_ = 0) && rsB f (sdS pl (sc S i))) = true then (i : Int) else enV f pl S i := by
 unfold enV
 rw [enN_succ]
 cases h : enN f pl S i with
 | some j =>
  have e : decide ((j : Int) < 0) = false := decide_eq_false (by omega)
  simp [e]
 | none =>
  simp only [show decide ((-1 : Int) < 0) = true from rfl, Bool.true_and]
  unfold ovB
  cases hb : (decide ((sc S i).at_ = 0) && rsB f (sdS pl (sc S i))) <;> simp
structure G5 where
 v5 : Nat
 v6 : Nat
 v7 : Nat
 v8 : Nat
 v9 : Nat
 k5 : Kind
 k6 : Kind
 k7 : Kind
 k8 : Kind
 k9 : Kind
abbrev kX (r : Rm) (f : St) (pl : List Int) (x : Sd) : List AV := [.strs r.ps, .lst 4 (r.ts.map thA), .lst 3 (r.pp.map ppA), .lst 3 (r.wy.map wyA), .lst 8 (r.ac.map acA), .lst 3 (r.au.map auA), .int r.n, .lst 3 (r.goal.map ltA), .ints f.ts, .ints f.pp, .ints f.pl, .ints x.ts, .ints x.pp, .ints pl, .int x.at_]
abbrev lsM (r : Rm) (f : St) (pl : List Int) (S : SL Sd) (e4 : Ent) (g : G5) : Mem := [⟨1, .row 8 []⟩, ⟨1, .row 3 []⟩, ⟨S.length, .row 19 (stdL r f pl S)⟩, ⟨1, .mp (mpK sdK S)⟩, e4, ⟨g.v5, g.k5⟩, ⟨g.v6, g.k6⟩, ⟨g.v7, g.k7⟩, ⟨g.v8, g.k8⟩, ⟨g.v9, g.k9⟩]
theorem okL_kX (k : Nat) (r : Rm) (f : St) (pl : List Int) (x : Sd) : okL k [AV.agg (kX r f pl x)] := by simp [okL, AV.ok, okL_str, okL_th, okL_pp, okL_wy, okL_ac, okL_au, okL_lt, okL_mapInt]
theorem srow_succ (R : Sd → Nat → Sd) (M : Nat) (S : SL Sd) (i k : Nat) {S' : SL Sd} (h : srow R M S i k = some S') : srow R M S i (k + 1) = sstep R M S' i k := by
 show (srow R M S i k).bind _ = _
 rw [h]; rfl
theorem mpK_ok (S : SL Sd) (k : Nat) : okL k ((mpK sdK S).map (·.2)) := by
 unfold mpK
 generalize List.range S.length = L
 induction L with
 | nil => trivial
 | cons a l ih => exact ⟨trivial, ih⟩
theorem least_err {r : Rm} (hz : Sz r) {s : St} (hs : Zs s) (h1 : begE r s ≠ 0) : Pure Tryz.prog 16 [rmA r, stA s] (.tup [.lst 3 [], .int (begE r s)]) := by
 refine Spec.frz ?_
 have c0 := begin_err hz hs h1
 have e2 : decide (begE r s = 0) = false := decide_eq_false h1
 generalize begE r s = e at *
 unfold rmA rmC at *
 try unfold stA at *
 (refine Spec.of_bodyA Tryz.func16 rfl (by rw [Tryz.ntmps16]; simp) ?_; rw [Tryz.results16, Tryz.ntmps16]; simp only [entry, zipArgs, Nat.reduceAdd])
 ((refine x_pre (zc @e2 @Bool.not_false) ?_); (iterate 4 (refine x_nr (zc @e2 @Bool.not_false) ?_)); (refine x_nil (zc @e2 @Bool.not_false) ?_))
 (refine x_fzP (zc @e2 @Bool.not_false) (slq 2) ?_)
 (refine x_fzP (zc @e2 @Bool.not_false) (slq 3) ?_)
 (refine x_go (zc @e2 @Bool.not_false) ?_)
 (apply Run.pureFP; (exact x_ev (zc @e2 @Bool.not_false)); (exact (Enters.of Tryz.func46 rfl rfl)); (exact c0); (exact x_al (zc @e2 @Bool.not_false)); (try dsimp only [putA, optG]))
 (refine x_gg (zc @e2 @Bool.not_false) ?_)
 (first | exact x_retA (zc @e2 @Bool.not_false) | refine x_retAZ (zc @e2 @Bool.not_false) ?_)
 exact Vw.tup (.cons .emp (.cons (Vw.self trivial) .nil))
theorem least_ok {r : Rm} (hz : Sz r) {s : St} (hs : Zs s) (h : begE r s = 0) : Pure Tryz.prog 16 [rmA r, stA s] (.tup [.lst 3 ((leT r s).2.map tkA), .int (leT r s).1]) := by
 obtain ⟨hb0, hb1⟩ := begE_zero h
 obtain ⟨hv, hs2, hch⟩ := cs_zero hb1
 have hf := bg_SV hb0
 have c0 := begin_pure hz hs h
 have c1 := tasks_pure hv
 have hx0 : SdOk r s.pl (lsB r s) := ⟨hs2, Int.le_refl _, by have := hv.ps; simp only [lsB]; omega⟩
 have hkp : ∀ x : Sd, SdOk r s.pl x → Pure Tryz.prog 48 [.agg (kX r (bgS r) s.pl x)] (.str (sdK x)) := fun x hx => by
  obtain ⟨q1, q2⟩ := sd_inR hv hx
  have z := SV.zs hz hv hx.1
  exact key_pure r (bgS r) ⟨x.ts, x.pp, s.pl⟩ x.at_ q1 ⟨z.ts, z.pp⟩ q2
 have hrs : ∀ x : Sd, SdOk r s.pl x → Pure Tryz.prog 51 [.ref (kX r (bgS r) s.pl x) 0] (.bool (rsB (bgS r) (sdS s.pl x))) := fun x hx => reset_pure r (bgS r) ⟨x.ts, x.pp, s.pl⟩ (SV.zs hz hv hx.1) x.at_
 have hcn : ∀ x : Sd, SdOk r s.pl x → ∀ t, Pure Tryz.prog 52 [.ref (kX r (bgS r) s.pl x) 0, tkA t] (.bool (canB r (bgS r) (sdS s.pl x) x.at_ t)) := fun x hx t => can_pure hz (bgS r) (s := ⟨x.ts, x.pp, s.pl⟩) (SV.zs hz hv hx.1) (by unfold csE; rw [orE_ok hch, if_pos (show csB r ⟨x.ts, x.pp, s.pl⟩ = true from csB_SV.2 hx.1)]) hf.pp (SV.zs hz hv hf).ts x.at_ t
 have hcp : ∀ x : Sd, SdOk r s.pl x → _ := fun x hx => copied_spec ⟨x.ts, x.pp, s.pl⟩ (SV.zs hz hv hx.1)
 have hk0 := hkp _ hx0
 have htl : (tkL r).length ≤ 200 := by
  have := tkT_len r.ts (fun x hx => (hv.tsv x hx).2.1.2) r.ts.length (Nat.le_refl _)
  have := hv.wy; have := hv.ts; have := hv.pp
  unfold tkL
  simp only [List.length_append, tkW_len, tkP_len]
  omega
 refine Spec.frz ?_
 obtain ⟨tot, htot⟩ : ∃ tot, lsR r s = tot := ⟨_, rfl⟩
 unfold leT
 rw [htot]
 unfold lsR at htot
 have hsq : ∀ S' : SL Sd, tot = some S' → ∀ k, 0 < k → k < S'.length → sb S' k < k := fun S' e k q1 q2 => by
  subst e
  obtain ⟨Q', z1, z2⟩ := srun_is (nxR r (bgS r) s.pl) 4001 0 _ S' _ (SQ.start (lsB r s)) (BI.start (T := (tkL r).length) (R := nxR r (bgS r) s.pl) (lsB r s)) (by simp) htot
  exact (z1.b k q1 q2).1
 have hS0 : stdL r (bgS r) s.pl [(lsB r s, 0, 0)] = [elA r (bgS r) s.pl 0 (lsB r s, 0, 0)] := rfl
 have hM0 : mpK sdK [(lsB r s, 0, 0)] = [(.string (sdK (lsB r s)), .int 0)] := rfl
 have hA0 : allOk r s.pl [(lsB r s, 0, 0)] := fun j hj => by
  have : j = 0 := by simpa using hj
  subst this; exact hx0
 have hkB : Maps.Keyed Tryz.prog 9 = True := eq_true keyedStr
 have hek := fun x : Sd => eqKey_str (sdK x) (sdK x)
 have hgk : ∀ x : Sd, SdOk r s.pl x → goodK Tryz.prog 9 (.string (sdK x)) = true := fun x hx => goodStr (sdK_size hv hx)
 have hgl : ∀ S : SL Sd, allOk r s.pl S → goodL Tryz.prog 9 (mpK sdK S) = true := fun S h => goodL_mpK hv h
 have hgk0 := goodStr (sdK_size hv hx0)
 generalize hfE : bgS r = f at *
 unfold rmA rmC at *
 try unfold stA at *
 (refine Spec.of_bodyA Tryz.func16 rfl (by rw [Tryz.ntmps16]; simp) ?_; rw [Tryz.results16, Tryz.ntmps16]; simp only [entry, zipArgs, Nat.reduceAdd])
 ((refine x_pre @okL_tk ?_); (iterate 4 (refine x_nr @okL_tk ?_)); (refine x_nil @okL_tk ?_))
 (refine x_fzP @okL_tk (slq 2) ?_)
 (refine x_fzP @okL_tk (slq 3) ?_)
 (refine Wp.vacs 8 ?_; (try simp only [List.replicate_succ, List.replicate_zero, List.cons_append, List.nil_append]))
 (refine x_go @okL_tk ?_)
 (apply Run.pureFP; (exact x_ev @okL_tk); (exact (Enters.of Tryz.func46 rfl rfl)); (exact c0); (exact x_al @okL_tk); (try dsimp only [putA, optG]))
 (refine x_gg @okL_tk ?_)
 (apply Run.pureFP; (exact x_ev @okL_tk); (exact (Enters.of Tryz.func47 rfl rfl)); (exact c1); (exact x_al @okL_tk); (try dsimp only [putA, optG]))
 (refine x_nr @okL_tk ?_)
 (apply Run.nil; dsimp only [sQ, tQ, bQ])
 ((refine x_pre @okL_tk ?_); (iterate 1 (refine x_nr @okL_tk ?_)); (refine x_nil @okL_tk ?_))
 (repeat (first | apply Wp.seq | apply Wp.block | (apply Wp.skip; dsimp only [sQ, tQ, bQ])))
 (refine x_beg @okL_tk ?_)
 (iterate 5 (refine x_nr @okL_tk ?_))
 (apply Run.alcAt 2; (exact x_ev @okL_tk); ((try simp only [push_cast, seval, okL_tk]) <;> exact sT); exact rfl; (try simp only [push_cast, seval, okL_tk]))
 (repeat (refine x_nr @okL_tk ?_))
 (apply Run.nil; dsimp only [sQ, tQ, bQ])
 (repeat (first | apply Wp.seq | apply Wp.block | (apply Wp.skip; dsimp only [sQ, tQ, bQ])))
 (refine x_beg @okL_tk ?_)
 (apply Run.mapAt (3); (first | ((exact x_ev @okL_tk)) | exact rfl); (try simp only [push_cast, seval, okL_tk]))
 (repeat (refine x_nr @okL_tk ?_))
 (apply Run.pureFP; (exact x_ev @okL_tk); (exact (Enters.of Tryz.func48 rfl rfl)); (exact hk0); (exact x_al @okL_tk); (try dsimp only [putA, optG]))
 (refine x_go (zc @okL_tk (zc @hkB (zc @hgk0 @hek))) ?_)
 generalize hTk : (tkL r).map tkA = TA at *
 generalize s.pl = pl at *
 refine Wp.loop (fun (q : Nat × SL Sd × (Nat × Kind) × G5) => { t := [(8, .lst 3 TA), (9, .clo 48 []), (10, .osl 2 q.2.1.length 0 q.2.1.length), (11, .omap 3 1), (12, .int (enV f pl q.2.1 q.1)), (13, .int q.1)], m := lsM r f pl q.2.1 ⟨q.2.2.1.1, q.2.2.1.2⟩ q.2.2.2, n := 131 })
  (fun q => q.1 ≤ q.2.1.length ∧ q.2.1.length ≤ 4000 ∧ allOk r pl q.2.1 ∧ 0 < q.2.1.length ∧ srun (tkL r).length (nxR r f pl) 4000 (4001 - q.1) q.1 q.2.1 = tot) (fun q => 4001 - q.1) (0, [(lsB r s, 0, 0)], (0, .row 1 []), ⟨0, 0, 0, 0, 0, .row 1 [], .row 1 [], .row 1 [], .row 1 [], .row 1 []⟩) ?_ ?_ ?_
 ·simp only [hS0, hM0]
  (refine Le.of ?_ ?_ rfl rfl <;> (try simp only [push_cast, seval, okL_tk, hkB, hgk0, hek]) <;> (try (with_reducible rfl)))
  all_goals rfl
 ·exact ⟨by simp, by simp, hA0, by simp, htot⟩
 ·clear hS0 hM0 hgk0 hA0 hk0 c0 c1 htot
  rintro ⟨i, S, ⟨v4, k4⟩, g⟩ ⟨hi1, hi2, hi3, hi4, hi5⟩
  simp only at hi1 hi2 hi3 hi4 hi5
  (refine x_go (zc @okL_tk (zc @hkB @hek)) ?_)
  (apply Wp.cond; (exact x_ev (zc @okL_tk (zc @hkB @hek))))
  ·(intro hc; first | replace hc := bT hc | skip)
   have hrun : (srow (nxR r f pl) 4000 S i (tkL r).length).bind (srun (tkL r).length (nxR r f pl) 4000 (4001 - (i + 1)) (i + 1)) = tot := by
    rw [← hi5, show 4001 - i = (4001 - (i + 1)) + 1 by omega]
    show _ = if i < S.length then _ else _
    rw [if_pos hc]
   have hev := enV_succ f pl S i
   have hx := hi3 i hc
   have hgd := fun d => stdL_getD (r := r) (f := f) (pl := pl) (S := S) d hc
   have hscp : sc S i = (S.getD i (default, 0, 0)).1 := rfl
   rw [hscp] at hx hev
   generalize hp : S.getD i (default, 0, 0) = p at hx hgd hev hscp
   have c3 := hrs p.1 hx
   generalize hrb : rsB f (sdS pl p.1) = rb at c3 hev
   have hlen := stdL_len r f pl S
   (refine x_gs (zc @okL_tk (zc @hkB (zc @hek (zc @hgd (zc @elA.eq_1 (zc @elC.eq_1 @hlen)))))) ?_)
   (apply Run.alcAt 4; (exact x_ev (zc @okL_tk (zc @hkB (zc @hek (zc @hgd (zc @elA.eq_1 (zc @elC.eq_1 @hlen))))))); ((try simp only [push_cast, seval, okL_tk, hkB, hek, hgd, elA, elC, hlen]) <;> exact sT); exact rfl; (try simp only [push_cast, seval, okL_tk, hkB, hek, hgd, elA, elC, hlen]))
   (refine x_go (zc @okL_tk (zc @hkB (zc @hek (zc @hgd (zc @elA.eq_1 (zc @elC.eq_1 @hlen)))))) ?_)
   (apply Run.pureP; (exact x_ev (zc @okL_tk (zc @hkB (zc @hek (zc @hgd (zc @elA.eq_1 (zc @elC.eq_1 @hlen))))))); (exact (Enters.of Tryz.func51 rfl rfl)); (exact c3); (exact x_al (zc @okL_tk (zc @hkB (zc @hek (zc @hgd (zc @elA.eq_1 (zc @elC.eq_1 @hlen))))))); (try dsimp only [putA, optG]))
   (refine x_go (zc @okL_tk (zc @hkB (zc @hek (zc @hgd (zc @elA.eq_1 (zc @elC.eq_1 @hlen)))))) ?_)
   refine Wp.meetS { t := [(8, .lst 3 TA), (9, .clo 48 []), (10, .osl 2 S.length 0 S.length), (11, .omap 3 1), (12, .int (enV f pl S (i + 1))), (13, .int i), (14, .optr 4 (v4 + 1) 0 0)], m := lsM r f pl S ⟨v4 + 1, .row 15 [.agg (kX r f pl p.1)]⟩ g, n := 131 } ?_ ?_
   ·(apply Wp.cond; (exact x_ev (zc @okL_tk (zc @hkB (zc @hek (zc @hgd (zc @elA.eq_1 (zc @elC.eq_1 @hlen))))))))
    ·intro h4
     rw [if_pos (by simpa using h4)] at hev
     (refine x_go (zc @okL_tk (zc @hkB (zc @hek (zc @hgd (zc @elA.eq_1 (zc @elC.eq_1 @hlen)))))) ?_)
     rw [hev]
     (refine Le.of ?_ ?_ rfl rfl <;> (try simp only [push_cast, seval, okL_tk, hkB, hek, hgd, elA, elC, hlen]) <;> (try (with_reducible rfl)))
    ·intro h4
     rw [if_neg (by simpa using h4)] at hev
     (refine x_go (zc @okL_tk (zc @hkB (zc @hek (zc @hgd (zc @elA.eq_1 (zc @elC.eq_1 @hlen)))))) ?_)
     rw [hev]
     (refine Le.of ?_ ?_ rfl rfl <;> (try simp only [push_cast, seval, okL_tk, hkB, hek, hgd, elA, elC, hlen]) <;> (try (with_reducible rfl)))
   ·(try dsimp only [sQ, tQ, bQ])
    intro s' hs'
    refine Wp.le hs' ?_
    clear hs' hev c3
    (refine x_go (zc @okL_tk (zc @hkB @hek)) ?_)
    have hTAl : TA.length = (tkL r).length := by rw [← hTk, List.length_map]
    have hpl2 : p.1.ts.length = r.ts.length ∧ p.1.pp.length = r.pp.length := ⟨hx.1.ts, hx.1.pp⟩
    refine Wp.loop (fun (q : Nat × SL Sd × G5) => { t := [(8, .lst 3 TA), (9, .clo 48 []), (10, .osl 2 q.2.1.length 0 q.2.1.length), (11, .omap 3 1), (12, .int (enV f pl S (i + 1))), (13, .int i), (14, .optr 4 (v4 + 1) 0 0), (68, .lst 3 TA), (69, .int (tkL r).length), (70, .int q.1)], m := lsM r f pl q.2.1 ⟨v4 + 1, .row 15 [.agg (kX r f pl p.1)]⟩ q.2.2, n := 131 })
     (fun q => q.1 ≤ (tkL r).length ∧ srow (nxR r f pl) 4000 S i q.1 = some q.2.1 ∧ q.2.1.length ≤ 4000 ∧ allOk r pl q.2.1) (fun q => (tkL r).length - q.1) (0, S, g) ?_ ?_ ?_
    ·rw [← hTAl]
     (refine Le.of ?_ ?_ rfl rfl <;> (try simp only [push_cast, seval, okL_tk, hkB, hek]) <;> (try (with_reducible rfl)))
    ·exact ⟨by simp, rfl, hi2, hi3⟩
    ·rintro ⟨k, S', ⟨v5, v6, v7, v8, v9, k5, k6, k7, k8, k9⟩⟩ ⟨hk1, hk2, hk3, hk4⟩
     simp only at hk1 hk2 hk3 hk4
     (refine x_go (zc @okL_tk (zc @hkB @hek)) ?_)
     (apply Wp.cond; (exact x_ev (zc @okL_tk (zc @hkB @hek))))
     ·intro hk5
      have hk5 : k < (tkL r).length := by simpa using hk5
      have hlen2 := stdL_len r f pl S'
      have hold := srow_old k hk2
      have hle := (srow_len _ k hk2).1
      have hsi : sc S' i = p.1 := by unfold sc; rw [hold i hc, hp]
      have hst := srow_succ (nxR r f pl) 4000 S i k hk2
      have htg : ∀ d, TA.getD k d = tkA ((tkL r).getD k tk0) := fun d => by rw [← hTk]; exact getD_tk d hk5
      have hnx : nxR r f pl p.1 k = if canB r f (sdS pl p.1) p.1.at_ ((tkL r).getD k tk0) = true then nxT r f pl p.1 ((tkL r).getD k tk0) else p.1 := rfl
      obtain ⟨t, ht⟩ : ∃ t, (tkL r).getD k tk0 = t := ⟨_, rfl⟩
      rw [ht] at hnx
      simp only [ht] at htg
      have c4 := hcn p.1 hx t
      unfold sstep at hst
      rw [hsi] at hst
      unfold tkA at c4
      cases hcb : canB r f (sdS pl p.1) p.1.at_ t with
      | false =>
       rw [hcb] at c4 hnx
       rw [if_neg (by simp)] at hnx
       rw [hnx, if_pos (sk_iff.2 ⟨i, by omega, hsi⟩)] at hst
       (refine x_gs (zc @okL_tk (zc @hkB (zc @hek (zc @htg (zc @tkA.eq_1 @hTAl))))) ?_)
       (apply Run.alcAt 5; (exact x_ev (zc @okL_tk (zc @hkB (zc @hek (zc @htg (zc @tkA.eq_1 @hTAl)))))); ((try simp only [push_cast, seval, okL_tk, hkB, hek, htg, tkA, hTAl]) <;> exact sT); exact rfl; (try simp only [push_cast, seval, okL_tk, hkB, hek, htg, tkA, hTAl]))
       (refine x_go (zc @okL_tk (zc @hkB (zc @hek (zc @htg (zc @tkA.eq_1 @hTAl))))) ?_)
       (apply Run.pureP; (exact x_ev (zc @okL_tk (zc @hkB (zc @hek (zc @htg (zc @tkA.eq_1 @hTAl)))))); (exact (Enters.of Tryz.func52 rfl rfl)); (exact c4); (exact x_al (zc @okL_tk (zc @hkB (zc @hek (zc @htg (zc @tkA.eq_1 @hTAl)))))); (try dsimp only [putA, optG]))
       (refine x_gg (zc @okL_tk (zc @hkB (zc @hek (zc @htg (zc @tkA.eq_1 @hTAl))))) ?_)
       refine ⟨(k + 1, S', ⟨v5 + 1, v6, v7, v8, v9, .row 3 [tkA t], k6, k7, k8, k9⟩), ?_, ⟨by simp only; omega, hst, hk3, hk4⟩, by simp only; omega⟩
       (refine Le.of ?_ ?_ rfl rfl <;> (try simp only [push_cast, seval, okL_tk, hkB, hek, htg, tkA, hTAl]) <;> (try (with_reducible rfl)))
      | true =>
       rw [hcb] at c4 hnx
       rw [if_pos rfl] at hnx
       rw [hnx] at hst
       have hy := nx_ok hv hf hx hcb
       have c5 := hcp p.1 hx
       have c6 := do_spec hv hf (s := sdS pl p.1) hx.1 (a := p.1.at_) ⟨hx.2.1, by have := hx.2.2; have := hv.ps; omega⟩ hcb (a0 := ⟨1, .row 8 []⟩) (a1 := ⟨1, .row 3 []⟩) (a2 := ⟨S'.length, .row 19 (stdL r f pl S')⟩) (a3 := ⟨1, .mp (mpK sdK S')⟩) (a4 := ⟨v4 + 1, .row 15 [.agg (kX r f pl p.1)]⟩) (a5 := ⟨v5 + 1, .row 3 [tkA t]⟩) trivial trivial (by show okL 10 _; rw [okL_std]; trivial) (mpK_ok S' 10) (okL_kX 10 r f pl p.1) (by simp [Kind.ok, okL, AV.ok, tkA]) (v6 + 1) (v7 + 1) (v8 + 1) (v9 + 1)
       rw [← nx_sdS, show doA r p.1.at_ t = (nxT r f pl p.1 t).at_ from rfl] at c6
       generalize nxT r f pl p.1 t = y at *
       have hyl : y.ts.length = p.1.ts.length ∧ y.pp.length = p.1.pp.length := ⟨hy.1.ts.trans hx.1.ts.symm, hy.1.pp.trans hx.1.pp.symm⟩
       unfold sdS at c6
       unfold stA at c5
       simp only at c5 c6
       unfold tkA at c6
       have c7 := hkp y hy
       have hfd := findL_mpK (K := sdK) (S := S') (c := y) fun j hj e => sd_inj hv (hk4 j hj) hy e
       (refine x_gs (zc @okL_tk (zc @hkB (zc @hek (zc @htg (zc @tkA.eq_1 (zc @hTAl @Bool.not_true)))))) ?_)
       (apply Run.alcAt 5; (exact x_ev (zc @okL_tk (zc @hkB (zc @hek (zc @htg (zc @tkA.eq_1 (zc @hTAl @Bool.not_true))))))); ((try simp only [push_cast, seval, okL_tk, hkB, hek, htg, tkA, hTAl, Bool.not_true]) <;> exact sT); exact rfl; (try simp only [push_cast, seval, okL_tk, hkB, hek, htg, tkA, hTAl, Bool.not_true]))
       (refine x_go (zc @okL_tk (zc @hkB (zc @hek (zc @htg (zc @tkA.eq_1 (zc @hTAl @Bool.not_true)))))) ?_)
       (apply Run.pureP; (exact x_ev (zc @okL_tk (zc @hkB (zc @hek (zc @htg (zc @tkA.eq_1 (zc @hTAl @Bool.not_true))))))); (exact (Enters.of Tryz.func52 rfl rfl)); (exact c4); (exact x_al (zc @okL_tk (zc @hkB (zc @hek (zc @htg (zc @tkA.eq_1 (zc @hTAl @Bool.not_true))))))); (try dsimp only [putA, optG]))
       (refine x_gq (zc @okL_tk (zc @hkB (zc @hek (zc @htg (zc @tkA.eq_1 (zc @hTAl @Bool.not_true)))))) ?_)
       (apply Run.alcAt 6; (exact x_ev (zc @okL_tk (zc @hkB (zc @hek (zc @htg (zc @tkA.eq_1 (zc @hTAl @Bool.not_true))))))); ((try simp only [push_cast, seval, okL_tk, hkB, hek, htg, tkA, hTAl, Bool.not_true]) <;> exact sT); exact rfl; (try simp only [push_cast, seval, okL_tk, hkB, hek, htg, tkA, hTAl, Bool.not_true]))
       (refine x_go (zc @okL_tk (zc @hkB (zc @hek (zc @htg (zc @tkA.eq_1 (zc @hTAl @Bool.not_true)))))) ?_)
       (apply Run.fresh3At 7 8 9; (exact x_ev (zc @okL_tk (zc @hkB (zc @hek (zc @htg (zc @tkA.eq_1 (zc @hTAl @Bool.not_true))))))); (exact (Enters.of Tryz.func53 rfl rfl)); (exact c5); (exact VwL.cons (x := .agg [.ints p.1.ts, .ints p.1.pp, .ints pl]) (Vw.self (by simp [AV.ok, okL, okL_mapInt])) VwL.nil); (refine ⟨?_, ?_, ?_⟩ <;> (simp only [push_cast, seval, okL_tk, hkB, hek, htg, tkA, hTAl, Bool.not_true] <;> first | trivial | (simp; done))); (exact ⟨rfl, rfl, rfl⟩); (exact ⟨by decide, by decide, by decide⟩); (try dsimp only [putA, set3, List.set_cons_succ, List.set_cons_zero, List.set]))
       (refine x_go (zc @okL_tk (zc @hkB (zc @hek (zc @htg (zc @tkA.eq_1 (zc @hTAl @Bool.not_true)))))) ?_)
       (apply Run.spec (he := (Enters.of Tryz.func54 rfl rfl)); exact rfl; (simp only [push_cast, seval, okL_tk, hkB, hek, htg, tkA, hTAl, Bool.not_true] <;> first | exact rfl | assumption); (exact x_ev (zc @okL_tk (zc @hkB (zc @hek (zc @htg (zc @tkA.eq_1 (zc @hTAl @Bool.not_true))))))); (exact c6); (rintro _ _ ⟨rfl, rfl⟩; dsimp only [Go.Vg.S.put, optG]))
       (repeat (refine x_nr (zc @okL_tk (zc @hkB (zc @hek (zc @htg (zc @tkA.eq_1 (zc @hTAl @Bool.not_true)))))) ?_))
       (apply Run.nil; dsimp only [sQ, tQ, bQ])
       refine Wp.freezeRow 6 7 (vi := v7 + 1) (off := 0) (len := p.1.ts.length) (szi := 1) (li := y.ts.map AV.int) (le' := [.agg (kO r f (.ints y.ts) (.osl 8 (v8 + 1) 0 p.1.pp.length) (.osl 9 (v9 + 1) 0 pl.length) (.int y.at_))]) (by decide) rfl rfl (by simp [hyl.1]) (by decide) ⟨.inr ⟨_, _, rfl, rfl, .inl rfl, .inl rfl, .inl rfl, .inl rfl, .inl rfl, .inl rfl, .inl rfl, .inl rfl, .inl rfl, .inl rfl, .inl rfl, .inr ⟨rfl, by simp [← hyl.1, List.take_of_length_le]⟩, .inl rfl, .inl rfl, .inl rfl, trivial⟩, trivial⟩ ?_
       try simp only [List.set_cons_succ, List.set_cons_zero]
       refine Wp.freezeRow 6 8 (vi := v8 + 1) (off := 0) (len := p.1.pp.length) (szi := 1) (li := y.pp.map AV.int) (le' := [.agg (kO r f (.ints y.ts) (.ints y.pp) (.osl 9 (v9 + 1) 0 pl.length) (.int y.at_))]) (by decide) rfl rfl (by simp [hyl.2]) (by decide) ⟨.inr ⟨_, _, rfl, rfl, .inl rfl, .inl rfl, .inl rfl, .inl rfl, .inl rfl, .inl rfl, .inl rfl, .inl rfl, .inl rfl, .inl rfl, .inl rfl, .inl rfl, .inr ⟨rfl, by simp [← hyl.2, List.take_of_length_le]⟩, .inl rfl, .inl rfl, trivial⟩, trivial⟩ ?_
       try simp only [List.set_cons_succ, List.set_cons_zero]
       refine Wp.freezeRow 6 9 (vi := v9 + 1) (off := 0) (len := pl.length) (szi := 1) (li := pl.map AV.int) (le' := [.agg (kX r f pl y)]) (by decide) rfl rfl (by simp) (by decide) ⟨.inr ⟨_, _, rfl, rfl, .inl rfl, .inl rfl, .inl rfl, .inl rfl, .inl rfl, .inl rfl, .inl rfl, .inl rfl, .inl rfl, .inl rfl, .inl rfl, .inl rfl, .inl rfl, .inr ⟨rfl, by simp [List.take_of_length_le]⟩, .inl rfl, trivial⟩, trivial⟩ ?_
       try simp only [List.set_cons_succ, List.set_cons_zero]
       cases hsk : sk S' y with
       | true =>
        rw [if_pos hsk] at hst
        rw [hsk, if_pos rfl] at hfd
        (refine x_go (zc @okL_tk (zc @hkB (zc @hek (zc @htg (zc @tkA.eq_1 (zc @hTAl (zc @Bool.not_true (zc @hfd (zc (hgk y hy) (hgl S' hk4)))))))))) ?_)
        (apply Run.pureFP; (exact x_ev (zc @okL_tk (zc @hkB (zc @hek (zc @htg (zc @tkA.eq_1 (zc @hTAl (zc @Bool.not_true (zc @hfd (zc (hgk y hy) (hgl S' hk4))))))))))); (exact (Enters.of Tryz.func48 rfl rfl)); (exact c7); (exact x_al (zc @okL_tk (zc @hkB (zc @hek (zc @htg (zc @tkA.eq_1 (zc @hTAl (zc @Bool.not_true (zc @hfd (zc (hgk y hy) (hgl S' hk4))))))))))); (try dsimp only [putA, optG]))
        (refine x_gg (zc @okL_tk (zc @hkB (zc @hek (zc @htg (zc @tkA.eq_1 (zc @hTAl (zc @Bool.not_true (zc @hfd (zc (hgk y hy) (hgl S' hk4)))))))))) ?_)
        refine ⟨(k + 1, S', ⟨v5 + 1, v6 + 1, v7 + 1 + 1, v8 + 1 + 1, v9 + 1 + 1, .row 3 [tkA t], .row 15 [.agg (kX r f pl y)], .row 1 [], .row 1 [], .row 1 []⟩), ?_, ⟨by simp only; omega, hst, hk3, hk4⟩, by simp only; omega⟩
        (refine Le.of ?_ ?_ rfl rfl <;> (try simp only [push_cast, seval, okL_tk, hkB, hek, htg, tkA, hTAl, Bool.not_true, hfd, hgk y hy, hgl S' hk4]) <;> (try (with_reducible rfl)))
       | false =>
        rw [if_neg (by rw [hsk]; simp)] at hst
        rw [hsk, if_neg (by simp)] at hfd
        by_cases hbig : S'.length = 4000
        ·rw [if_pos hbig] at hst
         have e9 : decide ((S'.length : Int) = 4000) = true := decide_eq_true (by omega)
         (refine x_go (zc @okL_tk (zc @hkB (zc @hek (zc @htg (zc @tkA.eq_1 (zc @hTAl (zc @Bool.not_true (zc @hfd (zc (hgk y hy) (zc (hgl S' hk4) @e9)))))))))) ?_)
         (apply Run.pureFP; (exact x_ev (zc @okL_tk (zc @hkB (zc @hek (zc @htg (zc @tkA.eq_1 (zc @hTAl (zc @Bool.not_true (zc @hfd (zc (hgk y hy) (zc (hgl S' hk4) @e9))))))))))); (exact (Enters.of Tryz.func48 rfl rfl)); (exact c7); (exact x_al (zc @okL_tk (zc @hkB (zc @hek (zc @htg (zc @tkA.eq_1 (zc @hTAl (zc @Bool.not_true (zc @hfd (zc (hgk y hy) (zc (hgl S' hk4) @e9))))))))))); (try dsimp only [putA, optG]))
         (refine x_gg (zc @okL_tk (zc @hkB (zc @hek (zc @htg (zc @tkA.eq_1 (zc @hTAl (zc @Bool.not_true (zc @hfd (zc (hgk y hy) (zc (hgl S' hk4) @e9)))))))))) ?_)
         (first | exact x_retA (zc @okL_tk (zc @hkB (zc @hek (zc @htg (zc @tkA.eq_1 (zc @hTAl (zc @Bool.not_true (zc @hfd (zc (hgk y hy) (zc (hgl S' hk4) @e9)))))))))) | refine x_retAZ (zc @okL_tk (zc @hkB (zc @hek (zc @htg (zc @tkA.eq_1 (zc @hTAl (zc @Bool.not_true (zc @hfd (zc (hgk y hy) (zc (hgl S' hk4) @e9)))))))))) ?_)
         have hn := srow_none hst ((tkL r).length - (k + 1))
         rw [show k + 1 + ((tkL r).length - (k + 1)) = (tkL r).length by omega] at hn
         rw [hn] at hrun
         subst hrun
         exact Vw.tup (.cons .emp (.cons (Vw.self trivial) .nil))
        ·rw [if_neg hbig] at hst
         have e9 : decide ((S'.length : Int) = 4000) = false := decide_eq_false (by omega)
         have hup : updL (mpK sdK S') (.string (sdK y)) (.int (S'.length : Int)) = mpK sdK (S' ++ [(y, i, k)]) := by
          rw [updL_new _ _ _ hfd, mpK_snoc]
         have hS2 : 0 < S'.length := by omega
         have hsn : stdL r f pl S' ++ [.agg [.strs r.ps, .lst 4 (r.ts.map thA), .lst 3 (r.pp.map ppA), .lst 3 (r.wy.map wyA), .lst 8 (r.ac.map acA), .lst 3 (r.au.map auA), .int r.n, .lst 3 (r.goal.map ltA), .ints f.ts, .ints f.pp, .ints f.pl, .ints y.ts, .ints y.pp, .ints pl, .int y.at_, .int i, .int t.kd, .int t.nu, .int t.ar]] = stdL r f pl (S' ++ [(y, i, k)]) := by
          rw [stdL_snoc]
          unfold elA elC elT elB
          simp only [if_neg (show ¬ S'.length = 0 by omega), ht]
         have htk : (stdL r f pl S').take S'.length = stdL r f pl S' := List.take_of_length_le (by omega)
         (refine x_go (zc @okL_tk (zc @hkB (zc @hek (zc @htg (zc @tkA.eq_1 (zc @hTAl (zc @Bool.not_true (zc @hfd (zc (hgk y hy) (zc (hgl S' hk4) (zc @e9 (zc @hup (zc @hlen2 @htk))))))))))))) ?_)
         (apply Run.pureFP; (exact x_ev (zc @okL_tk (zc @hkB (zc @hek (zc @htg (zc @tkA.eq_1 (zc @hTAl (zc @Bool.not_true (zc @hfd (zc (hgk y hy) (zc (hgl S' hk4) (zc @e9 (zc @hup (zc @hlen2 @htk)))))))))))))); (exact (Enters.of Tryz.func48 rfl rfl)); (exact c7); (exact x_al (zc @okL_tk (zc @hkB (zc @hek (zc @htg (zc @tkA.eq_1 (zc @hTAl (zc @Bool.not_true (zc @hfd (zc (hgk y hy) (zc (hgl S' hk4) (zc @e9 (zc @hup (zc @hlen2 @htk)))))))))))))); (try dsimp only [putA, optG]))
         (refine x_gg (zc @okL_tk (zc @hkB (zc @hek (zc @htg (zc @tkA.eq_1 (zc @hTAl (zc @Bool.not_true (zc @hfd (zc (hgk y hy) (zc (hgl S' hk4) (zc @e9 (zc @hup (zc @hlen2 @htk))))))))))))) ?_)
         (apply Run.pureFP; (exact x_ev (zc @okL_tk (zc @hkB (zc @hek (zc @htg (zc @tkA.eq_1 (zc @hTAl (zc @Bool.not_true (zc @hfd (zc (hgk y hy) (zc (hgl S' hk4) (zc @e9 (zc @hup (zc @hlen2 @htk)))))))))))))); (exact (Enters.of Tryz.func48 rfl rfl)); (exact c7); (exact x_al (zc @okL_tk (zc @hkB (zc @hek (zc @htg (zc @tkA.eq_1 (zc @hTAl (zc @Bool.not_true (zc @hfd (zc (hgk y hy) (zc (hgl S' hk4) (zc @e9 (zc @hup (zc @hlen2 @htk)))))))))))))); (try dsimp only [putA, optG]))
         (refine x_gs (zc @okL_tk (zc @hkB (zc @hek (zc @htg (zc @tkA.eq_1 (zc @hTAl (zc @Bool.not_true (zc @hfd (zc (hgk y hy) (zc (hgl S' hk4) (zc @e9 (zc @hup (zc @hlen2 @htk))))))))))))) ?_)
         refine ⟨(k + 1, S' ++ [(y, i, k)], ⟨v5 + 1, v6 + 1, v7 + 1 + 1, v8 + 1 + 1, v9 + 1 + 1, .row 3 [tkA t], .row 15 [.agg (kX r f pl y)], .row 1 [], .row 1 [], .row 1 []⟩), ?_, ⟨by simp only; omega, hst, by simp; omega, allOk_snoc hk4 hy⟩, by simp only; omega⟩
         simp only [← hsn, List.length_append, List.length_singleton]
         (refine Le.of ?_ ?_ rfl rfl <;> (try simp only [push_cast, seval, okL_tk, hkB, hek, htg, tkA, hTAl, Bool.not_true, hfd, hgk y hy, hgl S' hk4, e9, hup, hlen2, htk]) <;> (try (with_reducible rfl)))
         all_goals (rw [hsn]; simp only [lsM, List.length_append, List.length_singleton])
     ·intro hk5
      have hk5 : k = (tkL r).length := by
       have : ¬ k < (tkL r).length := by simpa using hk5
       omega
      subst hk5
      have hold := srow_old _ hk2
      have hle := (srow_len _ _ hk2).1
      have hev2 : enV f pl S (i + 1) = enV f pl S' (i + 1) := by
       unfold enV
       rw [enN_old (fun j hj => by unfold sc; rw [hold j (by omega)])]
      rw [hk2] at hrun
      (refine x_go (zc @okL_tk (zc @hkB @hek)) ?_)
      refine ⟨(i + 1, S', (v4 + 1, .row 15 [.agg (kX r f pl p.1)]), ⟨v5, v6, v7, v8, v9, k5, k6, k7, k8, k9⟩), ?_, ⟨by simp only; omega, hk3, hk4, by simp only; omega, hrun⟩, by simp only; omega⟩
      simp only [← hev2]
      (refine Le.of ?_ ?_ rfl rfl <;> (try simp only [push_cast, seval, okL_tk, hkB, hek]) <;> (try (with_reducible rfl)))
  ·(intro hc; first | replace hc := bT hc | skip)
   obtain rfl : i = S.length := by omega
   have htt : tot = some S := by
    rw [← hi5, show 4001 - S.length = (4000 - S.length) + 1 by omega]
    show (if S.length < S.length then _ else _) = _
    rw [if_neg (Nat.lt_irrefl _)]
   have hbk := hsq S htt
   subst htt
   have hlen := stdL_len r f pl S
   cases hen : enN f pl S S.length with
   | none =>
    have hev : enV f pl S S.length = -1 := by unfold enV; rw [hen]
    (refine x_gg (zc @okL_tk (zc @hkB (zc @hek @hev))) ?_)
    (first | exact x_retA (zc @okL_tk (zc @hkB (zc @hek @hev))) | refine x_retAZ (zc @okL_tk (zc @hkB (zc @hek @hev))) ?_)
    simp only [hen]
    exact Vw.tup (.cons .emp (.cons (Vw.self trivial) .nil))
   | some e =>
    have hev : enV f pl S S.length = e := by unfold enV; rw [hen]
    have hel := (enN_lt hen).1
    have e9 : decide ((e : Int) < 0) = false := decide_eq_false (by omega)
    simp only [hen]
    generalize hk : (fun k => (tkL r).getD k tk0) = gt
    have hgt : ∀ k, (tkL r).getD k tk0 = gt k := fun k => by rw [← hk]
    (refine x_gg (zc @okL_tk (zc @hkB (zc @hek (zc @hev (zc @e9 @hlen))))) ?_)
    (repeat (first | apply Wp.seq | apply Wp.block | (apply Wp.skip; dsimp only [sQ, tQ, bQ])))
    apply Wp.adopt 20 3; (exact x_ev (zc @okL_tk (zc @hkB (zc @hek (zc @hev (zc @e9 @hlen))))))
    (refine x_go (zc @okL_tk (zc @hkB (zc @hek (zc @hev (zc @e9 @hlen))))) ?_)
    refine Wp.loop (fun (q : Nat × List Nat) => { t := [(10, .osl 2 S.length 0 S.length), (20, .osl 10 q.2.length 0 q.2.length), (21, .int q.1)], m := lsM r f pl S ⟨v4, k4⟩ g ++ [⟨q.2.length, .row 3 ((q.2.map gt).map tkA)⟩], n := 131 })
     (fun q => q.1 + q.2.length ≤ e ∧ pth S e e = q.2 ++ pth S (e - q.2.length) q.1) (fun q => q.1) (e, []) ?_ ?_ ?_
    ·(refine Le.of ?_ ?_ rfl rfl <;> (try simp only [push_cast, seval, okL_tk, hkB, hek, hev, e9, hlen]) <;> (try (with_reducible rfl)))
     all_goals (first | exact ⟨rfl, rfl⟩ | rfl)
    ·exact ⟨by simp, by simp⟩
    ·rintro ⟨i, L⟩ ⟨hL1, hL2⟩
     simp only at hL1 hL2
     (refine x_go (zc @okL_tk (zc @hkB (zc @hek (zc @hev (zc @e9 @hlen))))) ?_)
     (apply Wp.cond; (exact x_ev (zc @okL_tk (zc @hkB (zc @hek (zc @hev (zc @e9 @hlen)))))))
     ·intro hi6
      have hi6 : 0 < i := by simpa using hi6
      have hiS : i < S.length := by omega
      have hgd := fun d => stdL_getD (r := r) (f := f) (pl := pl) (S := S) d hiS
      have hb := hbk i hi6 hiS
      have hpn : pth S (e - L.length) i = st' S i :: pth S (e - (L.length + 1)) (sb S i) := by
       rw [show e - L.length = (e - (L.length + 1)) + 1 by omega]
       show (if i = 0 then [] else _) = _
       rw [if_neg (by omega)]
      have hs1 : st' S i = (S.getD i (default, 0, 0)).2.2 := rfl
      have hs2 : sb S i = (S.getD i (default, 0, 0)).2.1 := rfl
      obtain ⟨p, hp⟩ : ∃ p, S.getD i (default, 0, 0) = p := ⟨_, rfl⟩
      rw [hp] at hs1 hs2
      simp only [hp] at hgd
      rw [hs1, hs2] at hpn
      rw [hs2] at hb
      have heT : elT r i p = gt p.2.2 := by unfold elT; rw [if_neg (by omega), hgt]
      have heB : elB i p = p.2.1 := by unfold elB; rw [if_neg (by omega)]
      have hU : ((L.map gt).map tkA).take L.length = (L.map gt).map tkA := List.take_of_length_le (by simp)
      (refine x_gs (zc @okL_tk (zc @hkB (zc @hek (zc @hlen (zc @hgd (zc @elA.eq_1 (zc @elC.eq_1 (zc @heT (zc @heB (zc @lenMp @hU)))))))))) ?_)
      refine ⟨(p.2.1, L ++ [p.2.2]), ?_, ⟨by simp; omega, by simp only [List.length_append, List.length_singleton]; rw [hL2, hpn]; simp⟩, hb⟩
      simp only [List.map_append, List.map_cons, List.map_nil, List.length_append, List.length_singleton, tkA]
      (refine Le.of ?_ ?_ rfl rfl <;> (try simp only [push_cast, seval, okL_tk, hkB, hek, hlen, hgd, elA, elC, heT, heB, List.length_map, hU]) <;> (try (with_reducible rfl)))
     ·intro hi6
      have hi6 : i = 0 := by simpa using hi6
      subst hi6
      have hpz : pth S (e - L.length) 0 = [] := by cases e - L.length <;> rfl
      rw [hpz, List.append_nil] at hL2
      rw [hL2]
      have hrv := fun a0 a1 a2 a3 a4 a5 a6 a7 a8 a9 => rev_spec (a0 := a0) (a1 := a1) (a2 := a2) (a3 := a3) (a4 := a4) (a5 := a5) (a6 := a6) (a7 := a7) (a8 := a8) (a9 := a9) L.length (L.map gt) (by simp; omega)
      rw [List.length_map] at hrv
      (refine x_go (zc @okL_tk (zc @hkB (zc @hek @hlen))) ?_)
      (apply Run.spec (he := (Enters.of Tryz.func55 rfl rfl)); exact rfl; (simp only [push_cast, seval, okL_tk, hkB, hek, hlen] <;> first | exact rfl | assumption); (exact x_ev (zc @okL_tk (zc @hkB (zc @hek @hlen)))); (exact hrv _ _ _ _ _ _ _ _ _ _); (rintro _ _ ⟨rfl, rfl⟩; dsimp only [Go.Vg.S.put, optG]))
      (refine x_go (zc @okL_tk (zc @hkB (zc @hek @hlen))) ?_)
      (first | exact x_retA (zc @okL_tk (zc @hkB (zc @hek @hlen))) | refine x_retAZ (zc @okL_tk (zc @hkB (zc @hek @hlen))) ?_)
      exact Vw.tup (.cons (Vw.osl rfl (by simp) (by decide) (by rw [List.drop_zero, List.take_of_length_le (by simp)]; exact VwL.okAll (by rw [okL_tk]; trivial))) (.cons (Vw.self trivial) .nil))
theorem least_pure {r : Rm} (hz : Sz r) {s : St} (hs : Zs s) : Pure Tryz.prog 16 [rmA r, stA s] (leA r s) := by
 unfold leA
 by_cases h : begE r s = 0
 ·rw [if_pos h]; exact least_ok hz hs h
 ·rw [if_neg h]; exact least_err hz hs h
end Go.Proofs.Tryz
set_option maxHeartbeats 16000000
namespace Go.Proofs.Tryz
open Go.Vg
def ckN (r : Rm) (f : St) (pl : List Int) : List Tk → Sd → Nat
 | [], _ => 0
 | t :: l, x => if canB r f (sdS pl x) x.at_ t = true then ckN r f pl l (nxT r f pl x t) + 1 else 0
def ckL (r : Rm) (f : St) (pl : List Int) : List Tk → Sd → Sd
 | [], x => x
 | t :: l, x => if canB r f (sdS pl x) x.at_ t = true then ckL r f pl l (nxT r f pl x t) else x
theorem ckN_le (r : Rm) (f : St) (pl : List Int) : ∀ (l : List Tk) (x : Sd), ckN r f pl l x ≤ l.length
 | [], _ => Nat.le_refl _
 | t :: l, x => by
  unfold ckN
  split
  ·have := ckN_le r f pl l (nxT r f pl x t)
   simp only [List.length_cons]; omega
  ·omega
def ckR (r : Rm) (f : St) (pl : List Int) (l : List Tk) (x : Sd) : Int × Int :=
 if 200 < l.length then (0, 2) else if ckN r f pl l x < l.length then (ckN r f pl l x, 90) else if ovB f pl (ckL r f pl l x) = true then (0, 0) else (l.length, 90)
end Go.Proofs.Tryz
set_option maxHeartbeats 16000000
namespace Go.Proofs.Tryz
open Go.Vg
theorem tk_of_can {r : Rm} {f s : St} {a : Int} {t : Tk} (h : canB r f s a t = true) : ∃ k, k < (tkL r).length ∧ (tkL r).getD k tk0 = t := by
 have hm : t ∈ tkL r := by
  obtain ⟨kd, nu, ar⟩ := t
  unfold canB at h
  simp only at h
  unfold tkL
  rw [List.mem_append, List.mem_append]
  split at h
  ·rename_i hk
   subst hk
   unfold wkB wi at h
   simp only [Bool.and_eq_true, decide_eq_true_eq] at h
   obtain ⟨⟨rfl, q1, q2⟩, _⟩ := h
   refine .inl (.inl ?_)
   unfold tkW
   exact List.mem_map.2 ⟨nu.toNat, List.mem_range.2 (by omega), by rw [show ((nu.toNat : Nat) : Int) = nu by omega]⟩
  ·split at h
   ·rename_i hk
    subst hk
    unfold tnB wi at h
    simp only [Bool.and_eq_true, decide_eq_true_eq] at h
    obtain ⟨⟨q1, q2⟩, ⟨q3, q4, q5⟩, q6⟩ := h
    refine .inl (.inr ?_)
    unfold tkT
    refine List.mem_flatMap.2 ⟨nu.toNat, List.mem_range.2 (by omega), ?_⟩
    unfold tkS
    exact List.mem_map.2 ⟨ar.toNat, List.mem_range.2 (by omega), by rw [show ((nu.toNat : Nat) : Int) = nu by omega, show ((ar.toNat : Nat) : Int) = ar by omega]⟩
   ·split at h
    ·rename_i hk
     subst hk
     unfold ptB wi at h
     simp only [Bool.and_eq_true, decide_eq_true_eq] at h
     obtain ⟨⟨⟨rfl, q1, q2⟩, _⟩, _⟩ := h
     refine .inr ?_
     unfold tkP
     exact List.mem_map.2 ⟨nu.toNat, List.mem_range.2 (by omega), by rw [show ((nu.toNat : Nat) : Int) = nu by omega]⟩
    ·cases h
 obtain ⟨k, hk, rfl⟩ := List.getElem_of_mem hm
 exact ⟨k, hk, by simp [hk]⟩
section
variable {r : Rm} {f : St} {pl : List Int}
theorem nxR_no {x : Sd} {k : Nat} (h : canB r f (sdS pl x) x.at_ ((tkL r).getD k tk0) = false) : nxR r f pl x k = x := by unfold nxR; rw [h, if_neg (by simp)]
theorem nxR_yes {x : Sd} {k : Nat} (h : canB r f (sdS pl x) x.at_ ((tkL r).getD k tk0) = true) : nxR r f pl x k = nxT r f pl x ((tkL r).getD k tk0) := by unfold nxR; rw [if_pos h]
theorem word_of (hv : RV r) (hf : SV r f) : ∀ (l : List Tk) {x : Sd}, SdOk r pl x → ckN r f pl l x = l.length → ∃ w, okS (tkL r).length w ∧ w.length = l.length ∧ endW (nxR r f pl) x w = ckL r f pl l x
 | [], x, _, _ => ⟨[], (fun _ h => (by cases h)), rfl, rfl⟩
 | t :: l, x, hx, h => by
  unfold ckN at h
  split at h
  ·rename_i hc
   obtain ⟨k, hk, hkt⟩ := tk_of_can hc
   obtain ⟨w, w1, w2, w3⟩ := word_of hv hf l (nx_ok hv hf hx hc) (by simp only [List.length_cons] at h; omega)
   refine ⟨k :: w, fun z hz => ?_, by simp [w2], ?_⟩
   ·rcases List.mem_cons.1 hz with rfl | hz
    ·exact hk
    ·exact w1 z hz
   ·show endW (nxR r f pl) (nxR r f pl x k) w = _
    rw [show nxR r f pl x k = nxT r f pl x t by rw [nxR_yes (by rw [hkt]; exact hc), hkt], w3]
    show _ = if _ then _ else _
    rw [if_pos hc]
  ·simp only [List.length_cons] at h; omega
theorem list_of {b c : Sd} {w : List Nat} (h : LW (tkL r).length (nxR r f pl) b c w) : ∀ (v u : List Nat), w = u ++ v → ckN r f pl (v.map fun k => (tkL r).getD k tk0) (endW (nxR r f pl) b u) = v.length ∧ ckL r f pl (v.map fun k => (tkL r).getD k tk0) (endW (nxR r f pl) b u) = c
 | [], u, e => by
  rw [List.append_nil] at e
  subst e
  exact ⟨rfl, h.to⟩
 | s :: v, u, e => by
  have hc : canB r f (sdS pl (endW (nxR r f pl) b u)) (endW (nxR r f pl) b u).at_ ((tkL r).getD s tk0) = true := by
   cases hc : canB r f (sdS pl (endW (nxR r f pl) b u)) (endW (nxR r f pl) b u).at_ ((tkL r).getD s tk0) with
   | true => rfl
   | false =>
    exfalso
    have e1 : nxR r f pl (endW (nxR r f pl) b u) s = endW (nxR r f pl) b u := nxR_no hc
    have e2 : endW (nxR r f pl) b (u ++ v) = c := by
     rw [← h.to, e, endW_app, endW_app]
     show _ = endW (nxR r f pl) (nxR r f pl _ s) v
     rw [e1]
    have h3 := h.least (u ++ v) (fun z hz => h.ok z (by rw [e]; rcases List.mem_append.1 hz with hz | hz <;> simp [hz])) e2
    rcases h3 with h3 | h3
    ·have := congrArg List.length (e.symm.trans h3)
     simp at this
    ·unfold sl at h3
     have hl : w.length = u.length + v.length + 1 := by rw [e]; simp; omega
     rcases h3 with h3 | ⟨h3, _⟩ <;> (simp at h3; omega)
  have e1 : endW (nxR r f pl) b (u ++ [s]) = nxT r f pl (endW (nxR r f pl) b u) ((tkL r).getD s tk0) := by
   rw [endW_app]
   exact nxR_yes hc
  obtain ⟨q1, q2⟩ := list_of h v (u ++ [s]) (by rw [e]; simp)
  rw [e1] at q1 q2
  rw [List.map_cons]
  refine ⟨?_, ?_⟩
  ·show (if _ then _ else _) = _
   rw [if_pos hc, q1]; rfl
  ·show (if _ then _ else _) = _
   rw [if_pos hc, q2]
theorem pth_is {S : SL Sd} {Q : QL Sd} (h : SQ S Q) (h0 : qw Q 0 = []) : ∀ (n i : Nat), i ≤ n → i < S.length → (pth S n i).reverse = qw Q i
 | 0, i, hi, _ => by
  have : i = 0 := by omega
  subst this
  rw [h0]; rfl
 | n + 1, i, hi, hs => by
  unfold pth
  by_cases hz : i = 0
  ·subst hz
   rw [if_pos rfl, h0]; rfl
  ·rw [if_neg hz]
   obtain ⟨b1, b2⟩ := h.b i (by omega) hs
   rw [List.reverse_cons, pth_is h h0 n (sb S i) (by omega) (by omega), b2]
end
def wrN (f : St) (x : Sd) : Nat := (unL x.ts f.ts).length + (unL x.pp f.pp).length
theorem unN_set (a b : List Int) (n : Nat) (v : Int) : ∀ k, (unN a b k).length ≤ (unN (a.set n v) b k).length + (if n < k then 1 else 0)
 | 0 => by simp [unN]
 | k + 1 => by
  have ih := unN_set a b n v k
  rw [unN_succ, unN_succ, getD_set]
  by_cases hn : n = k
  ·subst hn
   rw [if_neg (Nat.lt_irrefl _)] at ih
   rw [if_pos (Nat.lt_succ_self _)]
   generalize (if n = n ∧ n < a.length then v else a.getD n 0) = z
   split <;> split <;> (try simp only [List.length_append, List.length_singleton]) <;> omega
  ·rw [if_neg (show ¬ (n = k ∧ k < a.length) from fun h => hn h.1)]
   have e : (if n < k + 1 then 1 else 0) = (if n < k then 1 else 0) := by
    by_cases h : n < k
    ·rw [if_pos h, if_pos (by omega)]
    ·rw [if_neg h, if_neg (by omega)]
   rw [e]
   split <;> (try simp only [List.length_append, List.length_singleton]) <;> omega
theorem unL_set (a b : List Int) (n : Nat) (v : Int) : (unL a b).length ≤ (unL (a.set n v) b).length + 1 := by
 unfold unL
 rw [List.length_set]
 have := unN_set a b n v a.length
 split at this <;> omega
theorem wr_step (r : Rm) (f : St) (pl : List Int) (x : Sd) (t : Tk) : wrN f x ≤ wrN f (nxT r f pl x t) + 1 := by
 unfold wrN
 have hts : (nxT r f pl x t).ts = (doS r f (sdS pl x) x.at_ t).ts := rfl
 have hpp : (nxT r f pl x t).pp = (doS r f (sdS pl x) x.at_ t).pp := rfl
 rw [hts, hpp]
 unfold doS
 split
 ·have := unL_set x.ts f.ts t.nu.toNat t.ar
  simp only [sdS]; omega
 ·split
  ·have := unL_set x.pp f.pp t.nu.toNat (f.pp.getD t.nu.toNat 0)
   simp only [sdS]; omega
  ·simp only [sdS]; omega
theorem wr_list (r : Rm) (f : St) (pl : List Int) : ∀ (l : List Tk) (x : Sd), wrN f x ≤ wrN f (ckL r f pl l x) + l.length
 | [], x => by show _ ≤ wrN f x + 0; omega
 | t :: l, x => by
  show _ ≤ wrN f (if _ then _ else _) + _
  split
  ·have h1 := wr_step r f pl x t
   have h2 := wr_list r f pl l (nxT r f pl x t)
   simp only [List.length_cons]; omega
  ·omega
theorem ov_wr {f : St} {pl : List Int} {x : Sd} (h : ovB f pl x = true) : wrN f x = 0 := by
 unfold ovB rsB sdS at h
 simp only [Bool.and_eq_true, decide_eq_true_eq] at h
 unfold wrN
 rw [h.2.1, h.2.2, (unL_nil rfl).2 rfl, (unL_nil rfl).2 rfl]; rfl
theorem srun_size {T : Nat} {R : Sd → Nat → Sd} {M : Nat} : ∀ (f i : Nat) {S S' : SL Sd}, srun T R M f i S = some S' → S'.length ≤ i + f
 | 0, i, S, S', h => by cases h
 | f + 1, i, S, S', h => by
  unfold srun at h
  split at h
  ·obtain ⟨S1, _, q2⟩ := Option.bind_eq_some_iff.1 h
   have := srun_size f (i + 1) q2
   omega
  ·cases h; omega
theorem least_law {r : Rm} {s : St} (h : begE r s = 0) : (leT r s).1 = 2 ∨ ((leT r s).1 = 90 ∧ ∀ l, (ckR r (bgS r) s.pl l (lsB r s)).2 ≠ 0) ∨ ((leT r s).1 = 0 ∧
  ckN r (bgS r) s.pl (leT r s).2 (lsB r s) = (leT r s).2.length ∧ ovB (bgS r) s.pl (ckL r (bgS r) s.pl (leT r s).2 (lsB r s)) = true ∧ wrN (bgS r) (lsB r s) ≤ (leT r s).2.length ∧ (wrN (bgS r) (lsB r s) = 0 → (leT r s).2.length = 0) ∧
  (leT r s).2.length ≤ 5000 ∧ ∀ l, (ckR r (bgS r) s.pl l (lsB r s)).2 = 0 → (leT r s).2.length ≤ l.length) := by
 obtain ⟨hb0, hb1⟩ := begE_zero h
 obtain ⟨hv, hs2, hch⟩ := cs_zero hb1
 have hf := bg_SV hb0
 have hx0 : SdOk r s.pl (lsB r s) := ⟨hs2, Int.le_refl _, by have := hv.ps; simp only [lsB]; omega⟩
 have hlt : (lsB r s).ts.length = (bgS r).ts.length ∧ (lsB r s).pp.length = (bgS r).pp.length := ⟨hs2.ts.trans hf.ts.symm, hs2.pp.trans hf.pp.symm⟩
 have hat : (lsB r s).at_ = 0 := rfl
 unfold leT
 unfold lsR
 generalize bgS r = f at *
 generalize lsB r s = x0 at *
 generalize s.pl = pl at *
 split
 ·exact .inl rfl
 ·rename_i S hS
  obtain ⟨Q, z1, z2⟩ := srun_is (nxR r f pl) 4001 0 _ S _ (SQ.start x0) (BI.start (T := (tkL r).length) (R := nxR r f pl) x0) (by simp) hS
  have hck : ∀ l, (ckR r f pl l x0).2 = 0 → ckN r f pl l x0 = l.length ∧ ovB f pl (ckL r f pl l x0) = true := fun l hl => by
   unfold ckR at hl
   have := ckN_le r f pl l x0
   split at hl
   ·cases hl
   ·split at hl
    ·cases hl
    ·split at hl
     ·rename_i q1 q2 q3
      exact ⟨by omega, q3⟩
     ·cases hl
  have hall : ∀ l, (ckR r f pl l x0).2 = 0 → ∃ k, k < S.length ∧ ovB f pl (sc S k) = true ∧ (qw Q k).length ≤ l.length := fun l hl => by
   obtain ⟨q1, q2⟩ := hck l hl
   obtain ⟨w, w1, w2, w3⟩ := word_of hv hf l hx0 q1
   obtain ⟨k, k1, k2⟩ := z2.all (R := nxR r f pl) w w1
   refine ⟨k, by rw [z1.len]; exact k1, by rw [z1.c, k2, w3]; exact q2, ?_⟩
   rcases (z2.lw k k1).least w w1 k2.symm with e | e
   ·rw [e, w2]; exact Nat.le_refl _
   ·unfold sl at e
    rcases e with e | ⟨e, _⟩ <;> omega
  split
  ·rename_i hen
   refine .inr (.inl ⟨rfl, fun l hl => ?_⟩)
   obtain ⟨k, k1, k2, _⟩ := hall l hl
   unfold enN at hen
   have := List.find?_eq_none.1 hen k (List.mem_range.2 k1)
   exact this k2
  ·rename_i e hen
   obtain ⟨e1, e2⟩ := enN_lt hen
   have hmin : ∀ k, ovB f pl (sc S k) = true → k < S.length → e ≤ k := fun k hk hkl => by
    unfold enN at hen
    rcases Nat.lt_or_ge k e with q | q
    ·exfalso
     rw [List.find?_eq_some_iff_getElem] at hen
     obtain ⟨_, i, hi, hie, hno⟩ := hen
     simp only [List.getElem_range] at hie hno
     have := hno k (by omega)
     rw [hk] at this
     cases this
    ·exact q
   have hw : ((pth S e e).map fun k => (tkL r).getD k tk0).reverse = (qw Q e).map fun k => (tkL r).getD k tk0 := by
    rw [← List.map_reverse, pth_is z1 z2.hw e e (Nat.le_refl _) e1]
   have hqe : e < Q.length := by rw [← z1.len]; exact e1
   obtain ⟨c1, c2⟩ := list_of (z2.lw e hqe) (qw Q e) [] rfl
   have c1 : ckN r f pl ((qw Q e).map fun k => (tkL r).getD k tk0) x0 = (qw Q e).length := c1
   have c2 : ckL r f pl ((qw Q e).map fun k => (tkL r).getD k tk0) x0 = qc Q e := c2
   refine .inr (.inr ⟨rfl, ?_, ?_, ?_, ?_, ?_, ?_⟩)
   ·simp only [hw, List.length_map]; exact c1
   ·simp only [hw]; rw [c2, ← z1.c]; exact e2
   ·have := wr_list r f pl ((qw Q e).map fun k => (tkL r).getD k tk0) x0
    rw [c2, ← z1.c, ov_wr e2, List.length_map] at this
    simp only [hw, List.length_map]; omega
   ·intro h0
    have h1 : ovB f pl x0 = true := by
     unfold wrN at h0
     have a1 := (unL_nil hlt.1).1 (List.length_eq_zero_iff.1 (by omega))
     have a2 := (unL_nil hlt.2).1 (List.length_eq_zero_iff.1 (by omega))
     unfold ovB rsB sdS
     simp [hat, a1, a2]
    have h2 : e ≤ 0 := hmin 0 (by rw [z1.c, z2.hc]; exact h1) (by rw [z1.len]; exact z2.pos)
    have h3 : e = 0 := by omega
    simp only [hw, List.length_map, h3, z2.hw]; rfl
   ·have h1 := z2.short (R := nxR r f pl) e e (Nat.le_refl _) hqe
    have h2 := srun_size _ _ hS
    simp only [hw, List.length_map]; omega
   ·intro l hl
    obtain ⟨k, k1, k2, k3⟩ := hall l hl
    have hek := hmin k k2 k1
    simp only [hw, List.length_map]
    rcases Nat.lt_or_eq_of_le hek with q | q
    ·have := z2.srt e k q (by rw [← z1.len]; exact k1)
     unfold sl at this
     rcases this with this | ⟨this, _⟩ <;> omega
    ·subst q; exact k3
end Go.Proofs.Tryz
set_option maxHeartbeats 16000000
namespace Go.Proofs.Tryz
open Go.Vg
abbrev dgB : ByteArray := ⟨#[48, 49, 50, 51, 52, 53, 54, 55, 56, 57]⟩
theorem dgB_chk : ((List.range 10).all fun k => decide (dgB.extract k (k + 1) = ⟨#[UInt8.ofNat (48 + k)]⟩)) = true := by kernel_rfl
theorem dgB_at {d : Nat} (h : d < 10) : dgB.extract d (d + 1) = dcm (d : Int) := by
 have := List.all_eq_true.1 dgB_chk d (List.mem_range.2 h)
 rw [of_decide_eq_true this]
 unfold dcm dcL dgt
 rw [if_neg (by omega), Int.toNat_natCast, if_pos h]
theorem dcm_chk : ((List.range 100).all fun d => decide (d < 10) || decide (dcm (d : Int) = dcm ((d / 10 : Nat) : Int) ++ dcm ((d % 10 : Nat) : Int))) = true := by kernel_rfl
theorem dcm_two {d : Nat} (h : 10 ≤ d) (h2 : d < 100) : dcm (d : Int) = dcm ((d / 10 : Nat) : Int) ++ dcm ((d % 10 : Nat) : Int) := by
 have := List.all_eq_true.1 dcm_chk d (List.mem_range.2 h2)
 rw [decide_eq_false (by omega), Bool.false_or] at this
 exact of_decide_eq_true this
theorem Dec1_pure (d : Nat) (h : d < 10) : Pure Tryz.prog 93 [.int d] (.str (dcm d)) := by
 have e1 : (d : Int).tmod 10 = d := by rw [Int.tmod_eq_emod_of_nonneg (by omega)]; omega
 have e2 : decide ((d : Int) < 10) = true := decide_eq_true (by omega)
 have hex : dgB.extract d (d + 1) = dcm d := dgB_at h
 have hsz : dgB.size = 10 := rfl
 (refine Spec.bd 0 Tryz.func93 Tryz.results93 Tryz.ntmps93 ?_; simp only [entry, zipArgs, Nat.reduceAdd])
 (refine x_gg (zc @e1 (zc @e2 (zc @hex @hsz))) ?_)
 (first | exact x_ret (zc @e1 (zc @e2 (zc @hex @hsz))) | refine x_retZ (zc @e1 (zc @e2 (zc @hex @hsz))) ?_)
theorem Dec_pure (d : Nat) (h : d < 60) : Pure Tryz.prog 93 [.int d] (.str (dcm d)) := by
 by_cases h1 : d < 10
 ·exact Dec1_pure d h1
 ·have h0 := Dec1_pure (d / 10) (by omega)
  have e1 : (d : Int).tmod 10 = ((d % 10 : Nat) : Int) := by rw [Int.tmod_eq_emod_of_nonneg (by omega)]; omega
  have e3 : (d : Int).tdiv 10 = ((d / 10 : Nat) : Int) := by rw [Int.tdiv_eq_ediv_of_nonneg (by omega)]; omega
  have e2 : decide ((d : Int) < 10) = false := decide_eq_false (by omega)
  have hex : dgB.extract (d % 10) (d % 10 + 1) = dcm ((d % 10 : Nat) : Int) := dgB_at (by omega)
  have hsz : dgB.size = 10 := rfl
  have z1 := dcm_size ((d / 10 : Nat) : Int)
  have z2 := dcm_size ((d % 10 : Nat) : Int)
  rw [dcm_two (by omega) (by omega)]
  have hm : d % 10 < 10 := by omega
  generalize hp : d % 10 = p at *
  generalize hq : d / 10 = q at *
  (refine Spec.bd 0 Tryz.func93 Tryz.results93 Tryz.ntmps93 ?_; simp only [entry, zipArgs, Nat.reduceAdd])
  (refine x_gg (zc @e1 (zc @e2 (zc @e3 (zc @hex @hsz)))) ?_)
  (apply Run.pureFP; (exact x_ev (zc @e1 (zc @e2 (zc @e3 (zc @hex @hsz))))); (exact (Enters.of Tryz.func93 rfl rfl)); (exact h0); (exact x_al (zc @e1 (zc @e2 (zc @e3 (zc @hex @hsz))))); (try dsimp only [putA, optG]))
  (refine x_gg (zc @e1 (zc @e2 (zc @e3 (zc @hex @hsz)))) ?_)
  (first | exact x_ret (zc @e1 (zc @e2 (zc @e3 (zc @hex @hsz)))) | refine x_retZ (zc @e1 (zc @e2 (zc @e3 (zc @hex @hsz)))) ?_)
def dkL (l : List Int) : List Int := l.map (· + 10)
theorem rkey_pure (pl : List Int) (x : Sd) (ha : 0 ≤ x.at_ ∧ x.at_ < 60) (h1 : x.ts.length ≤ 100) (h2 : x.pp.length ≤ 100) (k1 : ∀ n ∈ x.ts, 0 ≤ n ∧ n < 60) (k2 : ∀ n ∈ x.pp, -10 ≤ n ∧ n < 50) : Pure Tryz.prog 61 [.agg [.ints x.ts, .ints x.pp, .ints pl, .int x.at_]] (.str (kyB x.at_ (x.ts ++ dkL x.pp))) := by
 have hD : ∀ n : Int, 0 ≤ n ∧ n < 60 → Pure Tryz.prog 93 [.int n] (.str (dcm n)) := fun n h => by
  obtain ⟨d, rfl⟩ : ∃ d : Nat, n = d := ⟨n.toNat, by omega⟩
  exact Dec_pure d (by omega)
 have h0 := hD _ ha
 have hT : ∀ (l : List Int) (k : Nat), k < l.length → (l.take (k + 1)) = l.take k ++ [l.getD k 0] := fun l k hk => by
  rw [List.take_succ_eq_append_getElem hk]; simp [hk]
 have z4 : (⟨#[32]⟩ : ByteArray).size = 1 := rfl
 have hdl : (dkL x.pp).length = x.pp.length := by simp [dkL]
 have hdg : ∀ k, k < x.pp.length → (dkL x.pp).getD k 0 = x.pp.getD k 0 + 10 := fun k hk => by simp [dkL, hk]
 generalize dkL x.pp = D at *
 obtain ⟨ts, pp, a⟩ := x
 simp only at *
 (refine Spec.bd 0 Tryz.func61 Tryz.results61 Tryz.ntmps61 ?_; simp only [entry, zipArgs, Nat.reduceAdd])
 ((refine w_pre ?_); (iterate 2 (refine w_nr ?_)); (refine w_nil ?_))
 (refine w_fzP (slq 1) ?_)
 (refine w_go ?_)
 (apply Run.pureFP; (exact w_ev); (exact (Enters.of Tryz.func93 rfl rfl)); (exact h0); (exact w_al); (try dsimp only [putA, optG]))
 (refine w_go ?_)
 refine Wp.loop (fun (k : Nat) => { t := [(1, .ref [.ints ts, .ints pp, .ints pl, .int a] 0), (3, .str (kyB a (ts.take k))), (4, .int k)], m := [⟨1, .row 4 []⟩], n := 47 }) (fun k => k ≤ ts.length) (fun k => ts.length - k) 0 ?_ ?_ ?_
 ·(refine Le.of ?_ ?_ rfl rfl <;> (try simp only [push_cast, seval]) <;> (try (with_reducible rfl)))
  all_goals first
   | rfl
   | (rw [← kyB_nil])
   | (rw [← kyB_nil]; rfl)
 ·exact Nat.zero_le _
 ·intro k hk1
  (refine w_go ?_)
  (apply Wp.cond; (exact w_ev))
  ·intro hk
   have hk : k < ts.length := by simpa using hk
   have hn : 0 ≤ ts.getD k 0 ∧ ts.getD k 0 < 60 := k1 _ (by rw [show ts.getD k 0 = ts[k] by simp [hk]]; exact List.getElem_mem hk)
   have h5 := hD _ hn
   have hst : kyB a (ts.take (k + 1)) = kyB a (ts.take k) ++ spB ++ dcm (ts.getD k 0) := by rw [← kyB_snoc', hT ts k hk]
   have q1 := kyB_size a (ts.take k)
   have q2 := dcm_size (ts.getD k 0)
   have q3 : (ts.take k).length ≤ k := List.length_take_le _ _
   have q5 : (kyB a (ts.take k) ++ (⟨#[32]⟩ : ByteArray)).size = (kyB a (ts.take k)).size + (⟨#[32]⟩ : ByteArray).size := ByteArray.size_append
   generalize hx : ts.getD k 0 = x at *
   (refine x_go @hx ?_)
   (apply Run.pureFP; (exact x_ev @hx); (exact (Enters.of Tryz.func93 rfl rfl)); (exact h5); (exact x_al @hx); (try dsimp only [putA, optG]))
   (refine x_go @hx ?_)
   refine ⟨k + 1, ?_, by omega, by omega⟩
   simp only [hst]
   (refine Le.of ?_ ?_ rfl rfl <;> (try simp only [push_cast, seval, hx]) <;> (try (with_reducible rfl)))
   all_goals rfl
  ·intro hk
   obtain rfl : k = ts.length := by
    have : ¬ k < ts.length := by simpa using hk
    omega
   rw [List.take_length]
   (refine w_go ?_)
   refine Wp.loop (fun (k : Nat) => { t := [(1, .ref [.ints ts, .ints pp, .ints pl, .int a] 0), (3, .str (kyB a (ts ++ D.take k))), (5, .int k)], m := [⟨1, .row 4 []⟩], n := 47 }) (fun k => k ≤ pp.length) (fun k => pp.length - k) 0 ?_ ?_ ?_
   ·(refine Le.of ?_ ?_ rfl rfl <;> (try simp only [push_cast, seval]) <;> (try (with_reducible rfl)))
    all_goals first
     | rfl
     | (rw [List.take_zero, List.append_nil])
   ·exact Nat.zero_le _
   ·intro k hk1
    (refine w_go ?_)
    (apply Wp.cond; (exact w_ev))
    ·intro hk
     have hk : k < pp.length := by simpa using hk
     have hn : 0 ≤ pp.getD k 0 + 10 ∧ pp.getD k 0 + 10 < 60 := by
      have := k2 (pp.getD k 0) (by rw [show pp.getD k 0 = pp[k] by simp [hk]]; exact List.getElem_mem hk)
      omega
     have h5 := hD _ hn
     have hst : kyB a (ts ++ D.take (k + 1)) = kyB a (ts ++ D.take k) ++ spB ++ dcm (pp.getD k 0 + 10) := by rw [← kyB_snoc', hT D k (by omega), hdg k hk, List.append_assoc]
     have q1 := kyB_size a (ts ++ D.take k)
     have q2 := dcm_size (pp.getD k 0 + 10)
     have q3 : (D.take k).length ≤ k := List.length_take_le _ _
     have q6 : (ts ++ D.take k).length = ts.length + (D.take k).length := List.length_append
     have q5 : (kyB a (ts ++ D.take k) ++ (⟨#[32]⟩ : ByteArray)).size = (kyB a (ts ++ D.take k)).size + (⟨#[32]⟩ : ByteArray).size := ByteArray.size_append
     generalize hx : pp.getD k 0 = x at *
     (refine x_go @hx ?_)
     (apply Run.pureFP; (exact x_ev @hx); (exact (Enters.of Tryz.func93 rfl rfl)); (exact h5); (exact x_al @hx); (try dsimp only [putA, optG]))
     (refine x_go @hx ?_)
     refine ⟨k + 1, ?_, by omega, by omega⟩
     simp only [hst]
     (refine Le.of ?_ ?_ rfl rfl <;> (try simp only [push_cast, seval, hx]) <;> (try (with_reducible rfl)))
     all_goals rfl
    ·intro hk
     obtain rfl : k = pp.length := by
      have : ¬ k < pp.length := by simpa using hk
      omega
     rw [← hdl, List.take_length]
     (refine w_go ?_)
     (first | exact w_ret | refine w_retZ ?_)
end Go.Proofs.Tryz
set_option maxHeartbeats 16000000
namespace Go.Proofs.Tryz
open Go.Vg
def dkK (x : Sd) : ByteArray := kyB x.at_ (x.ts ++ dkL x.pp)
theorem dk_inR {r : Rm} (hv : RV r) {pl : List Int} {x : Sd} (hx : SdOk r pl x) : (0 ≤ x.at_ ∧ x.at_ < 60) ∧ (∀ n ∈ x.ts, 0 ≤ n ∧ n < 60) ∧ ∀ n ∈ x.pp, -10 ≤ n ∧ n < 50 := by
 obtain ⟨h1, h2, h3⟩ := hx
 have hp := hv.ps
 have hn := hv.n
 refine ⟨by omega, fun n h => ?_, fun n h => ?_⟩
 ·obtain ⟨i, hi, rfl⟩ := List.getElem_of_mem h
  have h4 := h1.tsv i hi
  have h5 := h1.ts
  simp only [sdS] at h4 h5
  have e : x.ts.getD i 0 = x.ts[i] := by simp [hi]
  have hi2 : i < r.ts.length := by omega
  have h6 := (hv.tsv (r.ts.getD i th0) (by rw [show r.ts.getD i th0 = r.ts[i] by simp [hi2]]; exact List.getElem_mem _)).2.1
  rw [e] at h4
  omega
 ·have h4 := h1.ppv n h
  omega
theorem dkL_inj : ∀ {a b : List Int}, dkL a = dkL b → a = b
 | [], [], _ => rfl
 | [], _ :: _, h => by simp [dkL] at h
 | _ :: _, [], h => by simp [dkL] at h
 | x :: a, y :: b, h => by
  simp only [dkL, List.map_cons, List.cons.injEq] at h
  rw [dkL_inj h.2, show x = y by omega]
theorem dk_inj {r : Rm} (hv : RV r) {pl : List Int} {x y : Sd} (hx : SdOk r pl x) (hy : SdOk r pl y) (h : dkK x = dkK y) : x = y := by
 obtain ⟨a1, a2, a3⟩ := dk_inR hv hx
 obtain ⟨b1, b2, b3⟩ := dk_inR hv hy
 have hm : ∀ {z : Sd}, (∀ n ∈ z.ts, 0 ≤ n ∧ n < 60) → (∀ n ∈ z.pp, -10 ≤ n ∧ n < 50) → ∀ n ∈ z.ts ++ dkL z.pp, inR n := fun {z} k1 k2 n hn => by
  rcases List.mem_append.1 hn with h | h
  ·have := k1 n h; unfold inR; omega
  ·obtain ⟨m, hm, rfl⟩ := List.mem_map.1 h
   have := k2 m hm; unfold inR; omega
 obtain ⟨e1, e2⟩ := kyB_inj (by unfold inR; omega) (by unfold inR; omega) (hm a2 a3) (hm b2 b3) h
 have l1 : x.ts.length = y.ts.length := by rw [show x.ts.length = r.ts.length from hx.1.ts, show y.ts.length = r.ts.length from hy.1.ts]
 obtain ⟨e3, e4⟩ := List.append_inj e2 l1
 have e5 : x.pp = y.pp := dkL_inj e4
 cases x; cases y
 simp_all
theorem dk_size {r : Rm} (hv : RV r) {pl : List Int} {x : Sd} (hx : SdOk r pl x) : (dkK x).size ≤ 200 := by
 have hk := kyB_size x.at_ (x.ts ++ dkL x.pp)
 have h1 : x.ts.length = r.ts.length := hx.1.ts
 have h2 : x.pp.length = r.pp.length := hx.1.pp
 have := hv.ts; have := hv.pp
 unfold dkK
 rw [List.length_append, show (dkL x.pp).length = x.pp.length by simp [dkL]] at hk
 omega
theorem ix_old {S : SL Sd} {c : Sd} (h : sk S c = true) (p : Sd × Nat × Nat) : ixS (S ++ [p]) c = ixS S c := by
 unfold ixS
 rw [List.findIdx_append, if_pos]
 exact (ixS_is h).1
theorem ix_new {S : SL Sd} {c : Sd} (h : sk S c = false) (i k : Nat) : ixS (S ++ [(c, i, k)]) c = S.length := by
 unfold ixS
 rw [List.findIdx_append, if_neg]
 ·simp
 ·intro hlt
  have : sk S c = true := by
   unfold sk
   rw [List.any_eq_true]
   exact List.findIdx_lt_length.1 hlt
  rw [h] at this; cases this
section
variable {T : Nat} {R : Sd → Nat → Sd} {S : SL Sd} {Q : QL Sd} {x0 : Sd}
def rI (R : Sd → Nat → Sd) (S : SL Sd) (i t : Nat) : Nat := ixS S (R (sc S i) t)
theorem rI_is (h1 : SQ S Q) (h2 : BI T R x0 Q Q.length 0) {i t : Nat} (hi : i < S.length) (ht : t < T) : rI R S i t < S.length ∧ sc S (rI R S i t) = R (sc S i) t := by
 obtain ⟨k, k1, k2⟩ := h2.don i t (by rw [← h1.len]; exact hi) ht (.inl (by rw [← h1.len]; exact hi))
 have hk : sk S (R (sc S i) t) = true := sk_iff.2 ⟨k, by rw [h1.len]; exact k1, by rw [h1.c, k2, h1.c]⟩
 obtain ⟨q1, q2, _⟩ := ixS_is hk
 exact ⟨q1, q2⟩
theorem endI (h1 : SQ S Q) (h2 : BI T R x0 Q Q.length 0) : ∀ (w : List Nat) (i : Nat), i < S.length → okS T w → endW (rI R S) i w < S.length ∧ sc S (endW (rI R S) i w) = endW R (sc S i) w
 | [], i, hi, _ => ⟨hi, rfl⟩
 | t :: w, i, hi, hw => by
  obtain ⟨q1, q2⟩ := rI_is h1 h2 hi (hw t (by simp))
  obtain ⟨q3, q4⟩ := endI h1 h2 w (rI R S i t) q1 (fun x hx => hw x (by simp [hx]))
  exact ⟨q3, by show sc S (endW (rI R S) (rI R S i t) w) = endW R (R (sc S i) t) w; rw [q4, q2]⟩
theorem apartS (h1 : SQ S Q) (h2 : BI T R x0 Q Q.length 0) {i j : Nat} (hi : i < S.length) (hj : j < S.length) (e : sc S i = sc S j) : i = j :=
 h2.apart (R := R) (by rw [← h1.len]; exact hi) (by rw [← h1.len]; exact hj) (by rw [← h1.c, ← h1.c]; exact e)
abbrev nwl : Nat → Bool := fun _ => false
theorem far_stay {RI : Nat → Nat → Nat} {N to s : Nat} (hR : ∀ i t, i < N → t < T → RI i t < N) (h : ∀ c, c < N → farF T RI nwl to (s + 1) c = farF T RI nwl to s c) : ∀ m c, c < N → farF T RI nwl to (s + m) c = farF T RI nwl to s c
 | 0, c, _ => rfl
 | m + 1, c, hc => by
  have ih := far_stay hR h m
  by_cases hm : m = 0
  ·subst hm; exact h c hc
  ·rw [show s + (m + 1) = (s + m) + 1 by omega, farF, if_neg, ih c hc]
   simp only [Bool.and_eq_true, List.any_eq_true, not_and, not_exists]
   rintro _ t ht he
   have he : farF T RI nwl to (s + m) (RI c t) = ((s + m : Nat) : Int) := by simpa using he
   rw [ih _ (hR c t hc (List.mem_range.1 ht))] at he
   have := (far_range T RI nwl to s (RI c t)).2
   omega
theorem far_done (h1 : SQ S Q) (h2 : BI T R x0 Q Q.length 0) {e s : Nat} (he : e < S.length) (h : ∀ c, c < S.length → farF T (rI R S) nwl e (s + 1) c = farF T (rI R S) nwl e s c) :
  farF T (rI R S) nwl e s 0 = ((qw Q e).length : Int) ∧ grS T (rI R S) (farF T (rI R S) nwl e s) (qw Q e).length 0 = qw Q e := by
 have hR := fun i t hi ht => (rI_is h1 h2 (i := i) (t := t) hi ht).1
 have hst := far_stay hR h
 have h0 : 0 < S.length := by rw [h1.len]; exact h2.pos
 have heq : e < Q.length := by rw [← h1.len]; exact he
 refine gr_least T (rI R S) e (G := fun c => c < S.length) hR (fun c _ h0 => far_word _ _ _ _ _ _ h0) (fun c v hc hv hve => ?_) h0 ?_
 ·have := far_least T (rI R S) nwl e (fun _ _ _ _ => rfl) (s + v.length) c v rfl hv hve (by omega)
  rwa [hst _ c hc] at this
 ·have hl := h2.lw e heq
  refine ⟨hl.ok, ?_, fun v hv hve => hl.least v hv ?_⟩
  ·obtain ⟨q1, q2⟩ := endI h1 h2 (qw Q e) 0 h0 hl.ok
   refine apartS h1 h2 q1 he ?_
   rw [q2, h1.c, h2.hc, hl.to, h1.c]
  ·obtain ⟨q1, q2⟩ := endI h1 h2 v 0 h0 hv
   rw [hve] at q2
   rw [← h2.hc, ← h1.c, ← q2, h1.c]
theorem far_never (h1 : SQ S Q) (h2 : BI T R x0 Q Q.length 0) (s : Nat) : farF T (rI R S) nwl S.length s 0 < 0 := by
 have h0 : 0 < S.length := by rw [h1.len]; exact h2.pos
 rcases Int.lt_or_le (farF T (rI R S) nwl S.length s 0) 0 with h | h
 ·exact h
 ·obtain ⟨v, v1, v2, _⟩ := far_word _ _ _ _ _ _ h
  have := (endI h1 h2 v 0 h0 v1).1
  omega
theorem ft_next (h1 : SQ S Q) (h2 : BI T R x0 Q Q.length 0) {e s : Nat} (h : ∀ c, c < S.length → farF T (rI R S) nwl e (s + 1) c = farF T (rI R S) nwl e s c) {c k : Nat} (hc : c < S.length) (hk : farF T (rI R S) nwl e s c = ((k + 1 : Nat) : Int)) :
  ftS T (rI R S) (farF T (rI R S) nwl e s) k c < T ∧ farF T (rI R S) nwl e s (rI R S c (ftS T (rI R S) (farF T (rI R S) nwl e s) k c)) = (k : Int) ∧ ∀ t, t < ftS T (rI R S) (farF T (rI R S) nwl e s) k c → farF T (rI R S) nwl e s (rI R S c t) ≠ (k : Int) := by
 have hR := fun i t hi ht => (rI_is h1 h2 (i := i) (t := t) hi ht).1
 have hst := far_stay hR h
 have hle : ∀ c v, c < S.length → okS T v → endW (rI R S) c v = e → 0 ≤ farF T (rI R S) nwl e s c ∧ farF T (rI R S) nwl e s c ≤ v.length := fun c v hc hv hve => by
  have := far_least T (rI R S) nwl e (fun _ _ _ _ => rfl) (s + v.length) c v rfl hv hve (by omega)
  rwa [hst _ c hc] at this
 obtain ⟨v, v1, v2, v3⟩ := far_word T (rI R S) nwl e s c (by omega)
 cases v with
 | nil =>
  have v3 : ((0 : Nat) : Int) = farF T (rI R S) nwl e s c := v3
  omega
 | cons t v =>
  have ht : t < T := v1 t (by simp)
  have hv : okS T v := fun x hx => v1 x (by simp [hx])
  have hct := hR c t hc ht
  obtain ⟨q1, q2⟩ := hle (rI R S c t) v hct hv v2
  obtain ⟨u, u1, u2, u3⟩ := far_word T (rI R S) nwl e s (rI R S c t) q1
  have h4 := (hle c (t :: u) hc (by
   intro x hx
   rcases List.mem_cons.1 hx with rfl | hx
   ·exact ht
   ·exact u1 x hx) u2).2
  simp only [List.length_cons] at v3 h4
  have hD : farF T (rI R S) nwl e s (rI R S c t) = (k : Int) := by omega
  obtain ⟨f1, f2, f3⟩ := ft_is T (rI R S) ht hD
  refine ⟨f1, f2, fun t' ht' h' => ?_⟩
  have := (ft_is T (rI R S) (by omega : t' < T) h').2.2
  omega
end
def cnN (T : Nat) (RI : Nat → Nat → Nat) (to s N : Nat) : Nat := ((List.range N).filter fun c => decide (farF T RI nwl to s c < 0)).length
theorem cnN_succ (T : Nat) (RI : Nat → Nat → Nat) (to s N : Nat) : cnN T RI to s (N + 1) = cnN T RI to s N + if farF T RI nwl to s N < 0 then 1 else 0 := by
 unfold cnN
 rw [List.range_succ, List.filter_append, List.length_append]
 by_cases h : farF T RI nwl to s N < 0 <;> simp [h]
theorem cnN_le (T : Nat) (RI : Nat → Nat → Nat) (to s : Nat) : ∀ N, cnN T RI to (s + 1) N ≤ cnN T RI to s N
 | 0 => Nat.le_refl _
 | N + 1 => by
  have := cnN_le T RI to s N
  rw [cnN_succ, cnN_succ]
  by_cases h : 0 ≤ farF T RI nwl to s N
  ·rw [far_keep _ _ _ _ h]; omega
  ·rw [if_pos (show farF T RI nwl to s N < 0 by omega)]
   split <;> omega
theorem cnN_lt (T : Nat) (RI : Nat → Nat → Nat) (to s : Nat) : ∀ N c, c < N → farF T RI nwl to (s + 1) c ≠ farF T RI nwl to s c → cnN T RI to (s + 1) N < cnN T RI to s N
 | 0, c, hc, _ => by omega
 | N + 1, c, hc, hne => by
  have h0 := cnN_le T RI to s N
  rw [cnN_succ, cnN_succ]
  by_cases hcn : c = N
  ·subst hcn
   have h : ¬ 0 ≤ farF T RI nwl to s c := fun h => hne (far_keep _ _ _ _ h)
   have h2 : ¬ farF T RI nwl to (s + 1) c < 0 := fun h2 => by
    have e : farF T RI nwl to (s + 1) c = (s : Int) + 1 ∨ farF T RI nwl to (s + 1) c = farF T RI nwl to s c := by
     by_cases hq : (decide (farF T RI nwl to s c < 0) && !nwl c && (List.range T).any fun t => farF T RI nwl to s (RI c t) == (s : Int)) = true
     ·left; rw [farF, if_pos hq]
     ·right; rw [farF, if_neg hq]
    rcases e with e | e
    ·omega
    ·exact hne e
   rw [if_neg h2, if_pos (show farF T RI nwl to s c < 0 by omega)]
   omega
  ·have := cnN_lt T RI to s N c (by omega) hne
   by_cases h : 0 ≤ farF T RI nwl to s N
   ·rw [far_keep _ _ _ _ h]; omega
   ·rw [if_pos (show farF T RI nwl to s N < 0 by omega)]
    split <;> omega
end Go.Proofs.Tryz
namespace Go.Vg
open Go.RowKit
variable {P : Program}
def lay3 (F : Mem) (B0 B1 : Ent) : List Bool → Mem
 | [c, a, s] => (if s then B1 else if a then B0 else vacE) :: (if c then F else [])
 | _ => []
theorem Wp.runF3 (c b e : Nat) (F : Mem) (B0 B1 : Ent) {r : Option Nat} {Q : Exit → S → Prop} {s : S} {id : Nat} {ops : List Oper} {gds : List (Option Nat)} {t1 : List (Nat × AV)} (hm : P.follows .mixedOrders = true) (hg : ops.map (·.dst) = gds) (hB : gds.all (dstB s.n) = true)
  (hord : ordB gds ops ops.length = true) (hes : [c, b, e].all (fun e => decide (e < ops.length)) = true)
  (habs : AbsM P gds ops [c, b, e] (fun z => s.m ++ lay3 F B0 B1 z) s.n 0 ops s.t t1) (h : Q .normal ⟨t1, s.m ++ B1 :: F, s.n, s.d⟩) : Wp P r (.region id ops.toArray true) Q s := by
 refine Wp.vacs 1 ?_
 exact Wp.runM [c, b, e] (fun z => s.m ++ lay3 F B0 B1 z) (s := { s with m := s.m ++ List.replicate 1 vacE }) hm hg hB hord hes rfl habs h
section
variable {gds : List (Option Nat)} {ops l : List Oper} {m F : Mem} {B0 B1 : Ent} {n k c b e : Nat} {t t' : List (Nat × AV)} {x : AV} {p : Prop} {dst : Option Nat} {op : Op} {type : TypeId} {pos : String} {after : Array Edge}
theorem AbsM.twoY {o : Oper} {u0 u1 w0 w1 : List Bool} (h1 : dstB n o.dst = true) (hc : ((consL ops [c, b, e] k).all fun z => z == u0 || z == u1) = true) (hs0 : setB [c, b, e] k u0 = w0) (hs1 : setB [c, b, e] k u1 = w1)
  (h2 : StepAt P gds t (m ++ lay3 F B0 B1 u0) o (m ++ lay3 F B0 B1 w0) x) (h3 : StepAt P gds t (m ++ lay3 F B0 B1 u1) o (m ++ lay3 F B0 B1 w1) x)
  (h4 : AbsM P gds ops [c, b, e] (fun z => m ++ lay3 F B0 B1 z) n (k + 1) l (upd t o.dst x) t') : AbsM P gds ops [c, b, e] (fun z => m ++ lay3 F B0 B1 z) n k (o :: l) t t' :=
 .cons (dstB_ok h1) (fun bits hb => by
  have := List.all_eq_true.1 hc bits hb
  rcases Bool.or_eq_true _ _ ▸ this with h | h
  ·obtain rfl := eq_of_beq h; rw [hs0]; exact h2
  ·obtain rfl := eq_of_beq h; rw [hs1]; exact h3) h4
theorem AbsM.callY {m' : Mem} {fo : Operand} {args : List Operand} {tys : Array TypeId} {f : FuncId} {caps vargs : List AV}
  (h1 : dstB n dst = true) (hc : ((consL ops [c, b, e] k).all fun z => z == [false, false, false] || z == [false, true, false]) = true) (hs0 : setB [c, b, e] k [false, false, false] = [true, false, false]) (hs1 : setB [c, b, e] k [false, true, false] = [true, true, false])
  (hf : fnOf (evo t fo) = some (f, caps)) (he : Enters P f) (hv : args.map (evo t) ++ caps = vargs) (hk : okL 0 vargs) (hsp : Spec P f vargs [] fun x' m'' => x' = x ∧ m'' = m')
  (hF : (m'.map fun (e : Ent) => (⟨e.ver, e.kind.shift (m.length + 1)⟩ : Ent)) = F)
  (h4 : AbsM P gds ops [c, b, e] (fun z => m ++ lay3 F B0 B1 z) n (k + 1) l (upd t dst (x.shift (m.length + 1))) t') : AbsM P gds ops [c, b, e] (fun z => m ++ lay3 F B0 B1 z) n k (⟨dst, callOp fo args tys, type, pos, after, none⟩ :: l) t t' := by
 have key : ∀ E : Ent, StepAt P gds t (m ++ [E]) ⟨dst, callOp fo args tys, type, pos, after, none⟩ (m ++ E :: F) (x.shift (m.length + 1)) := fun E => by
  have h := Spec.stepF (P := P) (gds := gds) (t := t) (m := m ++ [E]) (dst := dst) (tys := tys) (type := type) (pos := pos) (after := after) he hf hv hk hsp
  rw [List.length_append, List.length_singleton, hF, List.append_assoc] at h
  exact h
 exact AbsM.twoY h1 hc hs0 hs1 (key vacE) (key B0) h4
theorem AbsM.newY {sz : Nat} {row : List AV} {q : Option Nat} (h1 : dstB n dst = true) (hc : ((consL ops [c, b, e] k).all fun z => z == [false, false, false] || z == [true, false, false]) = true) (hs0 : setB [c, b, e] k [false, false, false] = [false, true, false]) (hs1 : setB [c, b, e] k [true, false, false] = [true, true, false])
  (h2 : alcA P (evo t) op = some (sz, row, q, p)) (hp : p) (hB : B0 = ⟨1, .row sz row⟩)
  (h4 : AbsM P gds ops [c, b, e] (fun z => m ++ lay3 F B0 B1 z) n (k + 1) l (upd t dst (alcV m.length 1 q)) t') : AbsM P gds ops [c, b, e] (fun z => m ++ lay3 F B0 B1 z) n k (⟨dst, op, type, pos, after, none⟩ :: l) t t' := by
 have key : ∀ T : Mem, StepAt P gds t (m ++ vacE :: T) ⟨dst, op, type, pos, after, none⟩ (m ++ B0 :: T) (alcV m.length 1 q) := fun T => by
  have h := alcA_step (P := P) (gds := gds) (t := t) (m := m ++ vacE :: T) (dst := dst) (type := type) (pos := pos) (after := after) h2 hp (id := m.length) (ver := 0) (k0 := .row 1 []) (by simp [vacE])
  rw [List.set_append_right _ _ (Nat.le_refl _), Nat.sub_self] at h
  rw [hB]; exact h
 exact AbsM.twoY h1 hc hs0 hs1 (key []) (key F) h4
theorem AbsM.stoY (h1 : dstB n dst = true) (hc : ((consL ops [c, b, e] k).all fun z => z == [true, true, false] || z == [true, true, false]) = true) (hs : setB [c, b, e] k [true, true, false] = [true, true, true])
  (h2 : evE P (evo t) B0 op = some (m.length, B1, x, p)) (hp : p)
  (h4 : AbsM P gds ops [c, b, e] (fun z => m ++ lay3 F B0 B1 z) n (k + 1) l (upd t dst x) t') : AbsM P gds ops [c, b, e] (fun z => m ++ lay3 F B0 B1 z) n k (⟨dst, op, type, pos, after, none⟩ :: l) t t' := by
 have key : StepAt P gds t (m ++ B0 :: F) ⟨dst, op, type, pos, after, none⟩ (m ++ B1 :: F) x := by
  have hid : (m ++ B0 :: F)[m.length]? = some B0 := by simp
  obtain ⟨q, g1, g2⟩ := evE_ok h2 hp hid
  have h := (effA_at (dst := dst) (type := type) (pos := pos) (after := after) g1 g2).stepAt (gds := gds) rfl
  rw [List.set_append_right _ _ (Nat.le_refl _), Nat.sub_self] at h
  exact h
 exact AbsM.twoY h1 hc hs hs key key h4
end
end Go.Vg
