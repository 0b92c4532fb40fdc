/- A part of the proof of ResetOrders: contracts of functions, with plain laws that they need. -/
import Derived.Shelf.Sort.Plain
import Derived.Shelf.Slices.CompactI
import Derived.Shelf.Slices.Delete
import Derived.Shelf.Slices.Empties
import Derived.Shelf.Slices.Empties2
import Derived.Ground.Names2Prog
import Derived.Shelf.Slices.In.SortNone
import Derived.Test.YtjhljokghikamaaGreatDoorVgR23J
set_option linter.all false
set_option maxHeartbeats 16000000
namespace Go.Proofs.Tryz
open Go.Vg
theorem keyedStr : Maps.Keyed Tryz.prog 9 := kdB_ok (by kernel_rfl)
theorem goodStr {s : ByteArray} (h : s.size ≤ 1000) : goodK Tryz.prog 9 (.string s) = true := by
 simp [goodK, WideMaps.keyOf_string_mk (P := Tryz.prog) (k := 9) Tryz.underlying9 (s := s) (by unfold maxLen; omega)]
theorem sdK_size {r : Rm} (hv : RV r) {pl : List Int} {x : Sd} (hx : SdOk r pl x) : (sdK x).size ≤ 1000 := by
 have h1 := kyB_size x.at_ (x.ts ++ x.pp)
 have h2 : x.ts.length = r.ts.length := hx.1.ts
 have h3 : x.pp.length = r.pp.length := hx.1.pp
 have h4 := hv.ts
 have h5 := hv.pp
 rw [List.length_append] at h1
 unfold sdK
 omega
theorem goodL_mpK {r : Rm} (hv : RV r) {pl : List Int} {S : SL Sd} (h : allOk r pl S) : goodL Tryz.prog 9 (mpK sdK S) = true := by
 unfold mpK
 have hL : ∀ j ∈ List.range S.length, (sdK (sc S j)).size ≤ 1000 := fun j hj => sdK_size hv (h j (List.mem_range.1 hj))
 generalize List.range S.length = L at hL
 induction L with
 | nil => rfl
 | cons a l ih =>
  simp only [List.map_cons, goodL, goodStr (hL a (by simp))]
  exact ih fun j hj => hL j (by simp [hj])
theorem updL_new : ∀ (l : List (Value × AV)) (k : Value) (x : AV), findL l k = none → updL l k x = l ++ [(k, x)]
 | [], k, x, _ => rfl
 | (k0, y) :: l, k, x, h => by
  simp only [findL, updL, List.cons_append] at h ⊢
  cases hb : eqKey k0 k with
  | true => rw [hb] at h; cases h
  | false => rw [hb] at h; simp only at h ⊢; rw [updL_new l k x h]
theorem rev_swap {l : List Tk} {i : Nat} (hi : i < l.length) {A : List Tk} (hA : A = (List.range l.length).map fun k : Nat => if k < i ∨ l.length - 1 - k < i then l.getD (l.length - 1 - k) tk0 else l.getD k tk0) (hlt : i < l.length - 1 - i) :
  (A.set i (A.getD (l.length - 1 - i) tk0)).set (l.length - 1 - i) (A.getD i tk0) = (List.range l.length).map fun k : Nat => if k < i + 1 ∨ l.length - 1 - k < i + 1 then l.getD (l.length - 1 - k) tk0 else l.getD k tk0 := by
 have hAl : A.length = l.length := by rw [hA]; simp
 have hAg : ∀ k, k < l.length → A.getD k tk0 = if k < i ∨ l.length - 1 - k < i then l.getD (l.length - 1 - k) tk0 else l.getD k tk0 := fun k hk => by rw [hA]; simp [hk]
 apply List.ext_getElem
 ·simp [hAl]
 ·intro k h1 h2
  have hk : k < l.length := by simpa using h2
  have hA1 : A.getD i tk0 = l.getD i tk0 := by have := hAg i hi; rw [if_neg (by omega)] at this; exact this
  have hA2 : A.getD (l.length - 1 - i) tk0 = l.getD (l.length - 1 - i) tk0 := by have := hAg (l.length - 1 - i) (by omega); rw [if_neg (by omega)] at this; exact this
  simp only [List.getElem_set, hA1, hA2]
  have e3 : A[k]'(by omega) = A.getD k tk0 := by simp [show k < A.length by omega]
  have hA3 := hAg k hk
  rw [e3, hA3]
  simp only [List.getElem_map, List.getElem_range]
  by_cases q1 : l.length - 1 - i = k
  ·rw [if_pos q1, if_pos (by omega), show l.length - 1 - k = i by omega]
  ·rw [if_neg q1]
   by_cases q2 : i = k
   ·rw [if_pos q2, if_pos (by omega), show l.length - 1 - k = l.length - 1 - i by omega]
   ·rw [if_neg q2]
    by_cases q3 : k < i ∨ l.length - 1 - k < i
    ·rw [if_pos q3, if_pos (by omega)]
    ·rw [if_neg q3, if_neg (by omega)]
def rvN (l : List Tk) (i : Nat) : List Tk := (List.range l.length).map fun k : Nat => if k < i ∨ l.length - 1 - k < i then l.getD (l.length - 1 - k) tk0 else l.getD k tk0
theorem rvN_len (l : List Tk) (i : Nat) : (rvN l i).length = l.length := by simp [rvN]
theorem rvN_zero (l : List Tk) : rvN l 0 = l := by
 apply List.ext_getElem
 ·simp [rvN]
 ·intro k h1 h2
  simp [rvN, h2]
theorem rvN_all (l : List Tk) {i : Nat} (h : l.length - 1 - i ≤ i) : rvN l i = l.reverse := by
 apply List.ext_getElem
 ·simp [rvN]
 ·intro k h1 h2
  have hk : k < l.length := by simpa using h2
  simp only [rvN, List.getElem_map, List.getElem_range, List.getElem_reverse]
  by_cases q : k < i ∨ l.length - 1 - k < i
  ·rw [if_pos q]; simp [show l.length - 1 - k < l.length by omega]
  ·rw [if_neg q]
   have : l.length - 1 - k = k := by omega
   simp [this, hk]
theorem rvN_succ (l : List Tk) {i : Nat} (h : i < l.length - 1 - i) : ((rvN l i).set i ((rvN l i).getD (l.length - 1 - i) tk0)).set (l.length - 1 - i) ((rvN l i).getD i tk0) = rvN l (i + 1) := rev_swap (by omega) rfl h
theorem getD_tk {l : List Tk} {i : Nat} (d : AV) (h : i < l.length) : (l.map tkA).getD i d = tkA (l.getD i tk0) := getD_mapE tkA l tk0 h
theorem rev_spec {a0 a1 a2 a3 a4 a5 a6 a7 a8 a9 : Ent} (v : Nat) (l : List Tk) (hl : l.length ≤ 100000) : Go.Vg.Spec Tryz.prog 55 [.osl 10 v 0 l.length] [a0, a1, a2, a3, a4, a5, a6, a7, a8, a9, ⟨v, .row 3 (l.map tkA)⟩] (fun x m' => x = .tup [] ∧ m' = [a0, a1, a2, a3, a4, a5, a6, a7, a8, a9, ⟨v, .row 3 (l.reverse.map tkA)⟩]) := by
 (refine Spec.of_bodyA Tryz.func55 rfl (by rw [Tryz.ntmps55]; simp) ?_; rw [Tryz.results55, Tryz.ntmps55]; simp only [entry, zipArgs, Nat.reduceAdd])
 (refine w_go ?_)
 refine Wp.loop (fun (k : Nat) => { t := [(0, .osl 10 v 0 l.length), (2, .int k), (3, .int ((l.length : Int) - 1 - k))], m := [a0, a1, a2, a3, a4, a5, a6, a7, a8, a9, ⟨v, .row 3 ((rvN l k).map tkA)⟩], n := 28 }) (fun k => k ≤ l.length) (fun k => l.length - k) 0 ?_ ?_ ?_
 ·(refine Le.of ?_ ?_ rfl rfl <;> (try simp only [push_cast, seval]) <;> (try (with_reducible rfl)))
  all_goals first
   | (rw [rvN_zero]; done)
   | rfl
   | simp
 ·simp
 ·intro k hk
  (refine w_go ?_)
  (apply Wp.cond; (exact w_ev))
  ·intro hc
   have hc : (k : Int) < (l.length : Int) - 1 - k := by simpa using hc
   have hst := rvN_succ l (i := k) (by omega)
   have hul := rvN_len l k
   obtain ⟨j, hj⟩ : ∃ j : Nat, l.length - 1 - k = j := ⟨_, rfl⟩
   have hj2 : (l.length : Int) - 1 - (k : Int) = (j : Int) := by omega
   rw [hj] at hst
   rw [hj2]
   generalize rvN l k = U at hst hul
   have g1 := fun d => getD_tk (l := U) (i := k) d (by omega)
   have g2 := fun d => getD_tk (l := U) (i := j) d (by omega)
   generalize hx : U.getD k tk0 = x at hst g1
   generalize hy : U.getD j tk0 = y at hst g2
   have hss : ∀ (l : List Tk) (i : Nat) (x : Tk), (l.map tkA).set i (.agg [.int x.kd, .int x.nu, .int x.ar]) = (l.set i x).map tkA := fun l i x => by rw [List.map_set]; rfl
   have hjl : j < U.length := by omega
   have g3 := fun d => getD_tk (l := U.set k y) (i := j) d (by rw [List.length_set]; omega)
   (refine x_go (zc @g1 (zc @g2 (zc @g3 (zc @drpS (zc @drpZ (zc @hss (zc @tkA.eq_1 (zc @hul (zc @lenMp @lenSt))))))))) ?_)
   (apply Wp.runW 13 15 (fun _ => [a0, a1, a2, a3, a4, a5, a6, a7, a8, a9, ⟨v, .row 3 ((U.set k y).map tkA)⟩]) mixed; (dsimp only [List.map] <;> exact rfl); exact rfl; kernel_rfl; kernel_rfl; (dsimp only; ((repeat (refine x_wn (zc @g1 (zc @g2 (zc @g3 (zc @drpS (zc @drpZ (zc @hss (zc @tkA.eq_1 (zc @hul (zc @lenMp @lenSt))))))))) ?_)); (refine x_we (zc @g1 (zc @g2 (zc @g3 (zc @drpS (zc @drpZ (zc @hss (zc @tkA.eq_1 (zc @hul (zc @lenMp @lenSt))))))))) ?_); (repeat (refine x_wn (zc @g1 (zc @g2 (zc @g3 (zc @drpS (zc @drpZ (zc @hss (zc @tkA.eq_1 (zc @hul (zc @lenMp @lenSt))))))))) ?_)); (refine x_we (zc @g1 (zc @g2 (zc @g3 (zc @drpS (zc @drpZ (zc @hss (zc @tkA.eq_1 (zc @hul (zc @lenMp @lenSt))))))))) ?_); (repeat (refine x_wn (zc @g1 (zc @g2 (zc @g3 (zc @drpS (zc @drpZ (zc @hss (zc @tkA.eq_1 (zc @hul (zc @lenMp @lenSt))))))))) ?_)); (refine x_w1 (zc @g1 (zc @g2 (zc @g3 (zc @drpS (zc @drpZ (zc @hss (zc @tkA.eq_1 (zc @hul (zc @lenMp @lenSt))))))))) ?_); (refine x_wn (zc @g1 (zc @g2 (zc @g3 (zc @drpS (zc @drpZ (zc @hss (zc @tkA.eq_1 (zc @hul (zc @lenMp @lenSt))))))))) ?_); (refine x_w2 (zc @g1 (zc @g2 (zc @g3 (zc @drpS (zc @drpZ (zc @hss (zc @tkA.eq_1 (zc @hul (zc @lenMp @lenSt))))))))) ?_)); exact AbW.nil))
   (refine x_go (zc @g1 (zc @g2 (zc @g3 (zc @drpS (zc @drpZ (zc @hss (zc @tkA.eq_1 (zc @hul (zc @lenMp @lenSt))))))))) ?_)
   refine ⟨k + 1, ?_, by omega, by omega⟩
   rw [← hst]
   (refine Le.of ?_ ?_ rfl rfl <;> (try simp only [push_cast, seval, g1, g2, g3, List.drop_succ_cons, List.drop_zero, hss, tkA, hul, List.length_map, List.length_set]) <;> (try (with_reducible rfl)))
   all_goals (try (congr 2; omega))
  ·intro hc
   have hc : ¬ (k : Int) < (l.length : Int) - 1 - k := by simpa using hc
   have hall := rvN_all l (i := k) (by omega)
   rw [hall]
   (refine w_go ?_)
   apply leaveAN; exact rfl; (exact w_ev); ((exact w_cl)); (try simp only [push_cast, seval])
end Go.Proofs.Tryz
set_option maxHeartbeats 16000000
namespace Go.Proofs.Tryz
open Go.Vg
theorem do_spec {r : Rm} (hv : RV r) {f : St} (hf : SV r f) {s : St} (hs : SV r s) {a : Int} (ha : 0 ≤ a ∧ a ≤ 100) {t : Tk} (hc : canB r f s a t = true) {a0 a1 a2 a3 a4 a5 : Ent} (h0 : a0.kind.ok 10) (h1 : a1.kind.ok 10) (h2 : a2.kind.ok 10) (h3 : a3.kind.ok 10) (h4 : a4.kind.ok 10) (h5 : a5.kind.ok 10) (v6 v7 v8 v9 : Nat) :
  Go.Vg.Spec Tryz.prog 54 [.optr 6 v6 0 0, tkA t] (doM a0 a1 a2 a3 a4 a5 r f v6 v7 v8 v9 s.ts.length s.pp.length s.pl.length s a) (fun x m' => x = .tup [] ∧ m' = doM a0 a1 a2 a3 a4 a5 r f v6 v7 v8 v9 s.ts.length s.pp.length s.pl.length (doS r f s a t) (doA r a t)) := by
 obtain ⟨kd, nu, ar⟩ := t
 unfold canB at hc
 simp only at hc
 unfold doS doA tkA
 simp only
 have hps := hv.ps
 split at hc
 ·rename_i hk
  subst hk
  simp only [show ¬((1 : Int) = 2) by omega, show ¬((1 : Int) = 3) by omega, if_false, if_true]
  unfold wkB wi at hc
  simp only [Bool.and_eq_true, Bool.or_eq_true, decide_eq_true_eq] at hc
  obtain ⟨⟨_, q1, q2⟩, q3⟩ := hc
  obtain ⟨n, rfl⟩ : ∃ n : Nat, nu = n := ⟨nu.toNat, by omega⟩
  simp only [Int.toNat_natCast] at *
  have hn : n < r.wy.length := by omega
  have hm := hv.wyv (r.wy.getD n wy0) (by rw [show r.wy.getD n wy0 = r.wy[n] by simp [hn]]; exact List.getElem_mem _)
  exact do_walk r f s a n ar hn ⟨by omega, by omega, ha⟩ h0 h1 h2 h3 h4 h5 v6 v7 v8 v9 _ _ _
 ·rename_i hk1
  split at hc
  ·rename_i hk
   subst hk
   simp only [show ¬((2 : Int) = 1) by omega, if_false, if_true]
   unfold tnB wi at hc
   simp only [Bool.and_eq_true, decide_eq_true_eq] at hc
   obtain ⟨⟨q1, q2⟩, _⟩ := hc
   obtain ⟨n, rfl⟩ : ∃ n : Nat, nu = n := ⟨nu.toNat, by omega⟩
   simp only [Int.toNat_natCast]
   exact do_turn r f s a n ar (by have := hs.ts; omega) h0 h1 h2 h3 h4 h5 v6 v7 v8 v9 _ _
  ·rename_i hk2
   split at hc
   ·rename_i hk
    subst hk
    simp only [show ¬((3 : Int) = 1) by omega, show ¬((3 : Int) = 2) by omega, if_false, if_true]
    unfold ptB wi at hc
    simp only [Bool.and_eq_true, decide_eq_true_eq] at hc
    obtain ⟨⟨⟨_, q1, q2⟩, _⟩, _⟩ := hc
    obtain ⟨n, rfl⟩ : ∃ n : Nat, nu = n := ⟨nu.toNat, by omega⟩
    simp only [Int.toNat_natCast]
    exact do_put r f s a n ar (by have := hs.pp; omega) (by have := hf.pp; omega) h0 h1 h2 h3 h4 h5 v6 v7 v8 v9 _ _
   ·cases hc
def ovB (f : St) (pl : List Int) (x : Sd) : Bool := decide (x.at_ = 0) && rsB f (sdS pl x)
def enN (f : St) (pl : List Int) (S : SL Sd) (n : Nat) : Option Nat := (List.range n).find? fun j => ovB f pl (sc S j)
def enV (f : St) (pl : List Int) (S : SL Sd) (n : Nat) : Int := match enN f pl S n with
 | some j => j
 | none => -1
def pth (S : SL Sd) : Nat → Nat → List Nat
 | 0, _ => []
 | n + 1, i => if i = 0 then [] else st' S i :: pth S n (sb S i)
def lsB (r : Rm) (s : St) : Sd := ⟨s.ts, s.pp, 0⟩
def lsR (r : Rm) (s : St) : Option (SL Sd) := srun (tkL r).length (nxR r (bgS r) s.pl) 4000 4001 0 [(lsB r s, 0, 0)]
def leT (r : Rm) (s : St) : Int × List Tk := match lsR r s with
 | none => (2, [])
 | some S => match enN (bgS r) s.pl S S.length with
  | none => (90, [])
  | some e => (0, ((pth S e e).map fun k => (tkL r).getD k tk0).reverse)
theorem enN_succ (f : St) (pl : List Int) (S : SL Sd) (n : Nat) : enN f pl S (n + 1) = match enN f pl S n with
  | some j => some j
  | none => if ovB f pl (sc S n) = true then some n else none := by
 unfold enN
 rw [List.range_succ, List.find?_append]
 cases (List.range n).find? fun j => ovB f pl (sc S j) with
 | some j => rfl
 | none =>
  simp only [Option.none_or, List.find?_cons, List.find?_nil]
  cases ovB f pl (sc S n) <;> rfl
theorem enN_old {f : St} {pl : List Int} {S S' : SL Sd} {n : Nat} (h : ∀ j, j < n → sc S' j = sc S j) : enN f pl S' n = enN f pl S n := by
 induction n with
 | zero => rfl
 | succ n ih => rw [enN_succ, enN_succ, ih fun j hj => h j (by omega), h n (by omega)]
theorem enN_lt {f : St} {pl : List Int} {S : SL Sd} {n j : Nat} (h : enN f pl S n = some j) : j < n ∧ ovB f pl (sc S j) = true := by
 unfold enN at h
 exact ⟨List.mem_range.1 (List.mem_of_find?_eq_some h), by simpa using List.find?_some h⟩
theorem sstep_old {R : Sd → Nat → Sd} {M : Nat} {S S' : SL Sd} {i k : Nat} (h : sstep R M S i k = some S') : ∀ j, j < S.length → S'.getD j (default, 0, 0) = S.getD j (default, 0, 0) := by
 intro j hj
 unfold sstep at h
 split at h
 ·cases h; rfl
 ·split at h
  ·cases h
  ·cases h; exact sc_old hj
theorem srow_old {R : Sd → Nat → Sd} {M : Nat} {S : SL Sd} {i : Nat} : ∀ (k : Nat) {S' : SL Sd}, srow R M S i k = some S' → ∀ j, j < S.length → S'.getD j (default, 0, 0) = S.getD j (default, 0, 0)
 | 0, S', h, j, hj => by cases h; rfl
 | k + 1, S', h, j, hj => by
  unfold srow at h
  obtain ⟨S1, q1, q2⟩ := Option.bind_eq_some_iff.1 h
  rw [sstep_old q2 j (by have := (srow_len R k q1).1; omega), srow_old k q1 j hj]
theorem srow_none {R : Sd → Nat → Sd} {M : Nat} {S : SL Sd} {i : Nat} {k : Nat} (h : srow R M S i k = none) : ∀ n, srow R M S i (k + n) = none
 | 0 => h
 | n + 1 => by
  show (srow R M S i (k + n)).bind _ = none
  rw [srow_none h n]; rfl
end Go.Proofs.Tryz
set_option maxHeartbeats 64000000
namespace Go.Proofs.Tryz
open Go.Vg
theorem enV_succ (f : St) (pl : List Int) (S : SL Sd) (i : Nat) : enV f pl S (i + 1) = if (decide (enV f pl S i < 0) && decide ((sc S i).at_ = 0) && rsB f (sdS pl (sc S i))) = true then (i : Int) else enV f pl S i := by
 unfold enV
 rw [enN_succ]
 cases h : enN f pl S i with
 | some j =>
  have e : decide ((j : Int) < 0) = false := decide_eq_false (by omega)
  simp [e]
 | none =>
  simp only [show decide ((-1 : Int) < 0) = true from rfl, Bool.true_and]
  unfold ovB
  cases hb : (decide ((sc S i).at_ = 0) && rsB f (sdS pl (sc S i))) <;> simp
structure G5 where
 v5 : Nat
 v6 : Nat
 v7 : Nat
 v8 : Nat
 v9 : Nat
 k5 : Kind
 k6 : Kind
 k7 : Kind
 k8 : Kind
 k9 : Kind
abbrev kX (r : Rm) (f : St) (pl : List Int) (x : Sd) : List AV := [.strs r.ps, .lst 4 (r.ts.map thA), .lst 3 (r.pp.map ppA), .lst 3 (r.wy.map wyA), .lst 8 (r.ac.map acA), .lst 3 (r.au.map auA), .int r.n, .lst 3 (r.goal.map ltA), .ints f.ts, .ints f.pp, .ints f.pl, .ints x.ts, .ints x.pp, .ints pl, .int x.at_]
abbrev lsM (r : Rm) (f : St) (pl : List Int) (S : SL Sd) (e4 : Ent) (g : G5) : Mem := [⟨1, .row 8 []⟩, ⟨1, .row 3 []⟩, ⟨S.length, .row 19 (stdL r f pl S)⟩, ⟨1, .mp (mpK sdK S)⟩, e4, ⟨g.v5, g.k5⟩, ⟨g.v6, g.k6⟩, ⟨g.v7, g.k7⟩, ⟨g.v8, g.k8⟩, ⟨g.v9, g.k9⟩]
theorem okL_kX (k : Nat) (r : Rm) (f : St) (pl : List Int) (x : Sd) : okL k [AV.agg (kX r f pl x)] := by simp [okL, AV.ok, okL_str, okL_th, okL_pp, okL_wy, okL_ac, okL_au, okL_lt, okL_mapInt]
theorem srow_succ (R : Sd → Nat → Sd) (M : Nat) (S : SL Sd) (i k : Nat) {S' : SL Sd} (h : srow R M S i k = some S') : srow R M S i (k + 1) = sstep R M S' i k := by
 show (srow R M S i k).bind _ = _
 rw [h]; rfl
theorem mpK_ok (S : SL Sd) (k : Nat) : okL k ((mpK sdK S).map (·.2)) := by
 unfold mpK
 generalize List.range S.length = L
 induction L with
 | nil => trivial
 | cons a l ih => exact ⟨trivial, ih⟩
theorem least_ok {r : Rm} (hz : Sz r) {s : St} (hs : Zs s) (h : begE r s = 0) : Pure Tryz.prog 16 [rmA r, stA s] (.tup [.lst 3 ((leT r s).2.map tkA), .int (leT r s).1]) := by
 obtain ⟨hb0, hb1⟩ := begE_zero h
 obtain ⟨hv, hs2, hch⟩ := cs_zero hb1
 have hf := bg_SV hb0
 have c0 := begin_pure hz hs h
 have c1 := tasks_pure hv
 have hx0 : SdOk r s.pl (lsB r s) := ⟨hs2, Int.le_refl _, by have := hv.ps; simp only [lsB]; omega⟩
 have hkp : ∀ x : Sd, SdOk r s.pl x → Pure Tryz.prog 48 [.agg (kX r (bgS r) s.pl x)] (.str (sdK x)) := fun x hx => by
  obtain ⟨q1, q2⟩ := sd_inR hv hx
  have z := SV.zs hz hv hx.1
  exact key_pure r (bgS r) ⟨x.ts, x.pp, s.pl⟩ x.at_ q1 ⟨z.ts, z.pp⟩ q2
 have hrs : ∀ x : Sd, SdOk r s.pl x → Pure Tryz.prog 51 [.ref (kX r (bgS r) s.pl x) 0] (.bool (rsB (bgS r) (sdS s.pl x))) := fun x hx => reset_pure r (bgS r) ⟨x.ts, x.pp, s.pl⟩ (SV.zs hz hv hx.1) x.at_
 have hcn : ∀ x : Sd, SdOk r s.pl x → ∀ t, Pure Tryz.prog 52 [.ref (kX r (bgS r) s.pl x) 0, tkA t] (.bool (canB r (bgS r) (sdS s.pl x) x.at_ t)) := fun x hx t => can_pure hz (bgS r) (s := ⟨x.ts, x.pp, s.pl⟩) (SV.zs hz hv hx.1) (by unfold csE; rw [orE_ok hch, if_pos (show csB r ⟨x.ts, x.pp, s.pl⟩ = true from csB_SV.2 hx.1)]) hf.pp (SV.zs hz hv hf).ts x.at_ t
 have hcp : ∀ x : Sd, SdOk r s.pl x → _ := fun x hx => copied_spec ⟨x.ts, x.pp, s.pl⟩ (SV.zs hz hv hx.1)
 have hk0 := hkp _ hx0
 have htl : (tkL r).length ≤ 200 := by
  have := tkT_len r.ts (fun x hx => (hv.tsv x hx).2.1.2) r.ts.length (Nat.le_refl _)
  have := hv.wy; have := hv.ts; have := hv.pp
  unfold tkL
  simp only [List.length_append, tkW_len, tkP_len]
  omega
 refine Spec.frz ?_
 obtain ⟨tot, htot⟩ : ∃ tot, lsR r s = tot := ⟨_, rfl⟩
 unfold leT
 rw [htot]
 unfold lsR at htot
 have hsq : ∀ S' : SL Sd, tot = some S' → ∀ k, 0 < k → k < S'.length → sb S' k < k := fun S' e k q1 q2 => by
  subst e
  obtain ⟨Q', z1, z2⟩ := srun_is (nxR r (bgS r) s.pl) 4001 0 _ S' _ (SQ.start (lsB r s)) (BI.start (T := (tkL r).length) (R := nxR r (bgS r) s.pl) (lsB r s)) (by simp) htot
  exact (z1.b k q1 q2).1
 have hS0 : stdL r (bgS r) s.pl [(lsB r s, 0, 0)] = [elA r (bgS r) s.pl 0 (lsB r s, 0, 0)] := rfl
 have hM0 : mpK sdK [(lsB r s, 0, 0)] = [(.string (sdK (lsB r s)), .int 0)] := rfl
 have hA0 : allOk r s.pl [(lsB r s, 0, 0)] := fun j hj => by
  have : j = 0 := by simpa using hj
  subst this; exact hx0
 have hkB : Maps.Keyed Tryz.prog 9 = True := eq_true keyedStr
 have hek := fun x : Sd => eqKey_str (sdK x) (sdK x)
 have hgk : ∀ x : Sd, SdOk r s.pl x → goodK Tryz.prog 9 (.string (sdK x)) = true := fun x hx => goodStr (sdK_size hv hx)
 have hgl : ∀ S : SL Sd, allOk r s.pl S → goodL Tryz.prog 9 (mpK sdK S) = true := fun S h => goodL_mpK hv h
 have hgk0 := goodStr (sdK_size hv hx0)
 generalize hfE : bgS r = f at *
 unfold rmA rmC at *
 try unfold stA at *
 (refine Spec.of_bodyA Tryz.func16 rfl (by rw [Tryz.ntmps16]; simp) ?_; rw [Tryz.results16, Tryz.ntmps16]; simp only [entry, zipArgs, Nat.reduceAdd])
 ((refine x_pre @okL_tk ?_); (iterate 4 (refine x_nr @okL_tk ?_)); (refine x_nil @okL_tk ?_))
 (refine x_fzP @okL_tk (slq 2) ?_)
 (refine x_fzP @okL_tk (slq 3) ?_)
 (refine Wp.vacs 8 ?_; (try simp only [List.replicate_succ, List.replicate_zero, List.cons_append, List.nil_append]))
 (refine x_go @okL_tk ?_)
 (apply Run.pureFP; (exact x_ev @okL_tk); (exact (Enters.of Tryz.func46 rfl rfl)); (exact c0); (exact x_al @okL_tk); (try dsimp only [putA, optG]))
 (refine x_gg @okL_tk ?_)
 (apply Run.pureFP; (exact x_ev @okL_tk); (exact (Enters.of Tryz.func47 rfl rfl)); (exact c1); (exact x_al @okL_tk); (try dsimp only [putA, optG]))
 (refine x_nr @okL_tk ?_)
 (apply Run.nil; dsimp only [sQ, tQ, bQ])
 ((refine x_pre @okL_tk ?_); (iterate 1 (refine x_nr @okL_tk ?_)); (refine x_nil @okL_tk ?_))
 (repeat (first | apply Wp.seq | apply Wp.block | (apply Wp.skip; dsimp only [sQ, tQ, bQ])))
 (refine x_beg @okL_tk ?_)
 (iterate 5 (refine x_nr @okL_tk ?_))
 (apply Run.alcAt 2; (exact x_ev @okL_tk); ((try simp only [push_cast, seval, okL_tk]) <;> exact sT); exact rfl; (try simp only [push_cast, seval, okL_tk]))
 (repeat (refine x_nr @okL_tk ?_))
 (apply Run.nil; dsimp only [sQ, tQ, bQ])
 (repeat (first | apply Wp.seq | apply Wp.block | (apply Wp.skip; dsimp only [sQ, tQ, bQ])))
 (refine x_beg @okL_tk ?_)
 (apply Run.mapAt (3); (first | ((exact x_ev @okL_tk)) | exact rfl); (try simp only [push_cast, seval, okL_tk]))
 (repeat (refine x_nr @okL_tk ?_))
 (apply Run.pureFP; (exact x_ev @okL_tk); (exact (Enters.of Tryz.func48 rfl rfl)); (exact hk0); (exact x_al @okL_tk); (try dsimp only [putA, optG]))
 (refine x_go (zc @okL_tk (zc @hkB (zc @hgk0 @hek))) ?_)
 generalize hTk : (tkL r).map tkA = TA at *
 generalize s.pl = pl at *
 refine Wp.loop (fun (q : Nat × SL Sd × (Nat × Kind) × G5) => { t := [(8, .lst 3 TA), (9, .clo 48 []), (10, .osl 2 q.2.1.length 0 q.2.1.length), (11, .omap 3 1), (12, .int (enV f pl q.2.1 q.1)), (13, .int q.1)], m := lsM r f pl q.2.1 ⟨q.2.2.1.1, q.2.2.1.2⟩ q.2.2.2, n := 131 })
  (fun q => q.1 ≤ q.2.1.length ∧ q.2.1.length ≤ 4000 ∧ allOk r pl q.2.1 ∧ 0 < q.2.1.length ∧ srun (tkL r).length (nxR r f pl) 4000 (4001 - q.1) q.1 q.2.1 = tot) (fun q => 4001 - q.1) (0, [(lsB r s, 0, 0)], (0, .row 1 []), ⟨0, 0, 0, 0, 0, .row 1 [], .row 1 [], .row 1 [], .row 1 [], .row 1 []⟩) ?_ ?_ ?_
 ·simp only [hS0, hM0]
  (refine Le.of ?_ ?_ rfl rfl <;> (try simp only [push_cast, seval, okL_tk, hkB, hgk0, hek]) <;> (try (with_reducible rfl)))
  all_goals rfl
 ·exact ⟨by simp, by simp, hA0, by simp, htot⟩
 ·clear hS0 hM0 hgk0 hA0 hk0 c0 c1 htot
  rintro ⟨i, S, ⟨v4, k4⟩, g⟩ ⟨hi1, hi2, hi3, hi4, hi5⟩
  simp only at hi1 hi2 hi3 hi4 hi5
  (refine x_go (zc @okL_tk (zc @hkB @hek)) ?_)
  (apply Wp.cond; (exact x_ev (zc @okL_tk (zc @hkB @hek))))
  ·(intro hc; first | replace hc := bT hc | skip)
   have hrun : (srow (nxR r f pl) 4000 S i (tkL r).length).bind (srun (tkL r).length (nxR r f pl) 4000 (4001 - (i + 1)) (i + 1)) = tot := by
    rw [← hi5, show 4001 - i = (4001 - (i + 1)) + 1 by omega]
    show _ = if i < S.length then _ else _
    rw [if_pos hc]
   have hev := enV_succ f pl S i
   have hx := hi3 i hc
   have hgd := fun d => stdL_getD (r := r) (f := f) (pl := pl) (S := S) d hc
   have hscp : sc S i = (S.getD i (default, 0, 0)).1 := rfl
   rw [hscp] at hx hev
   generalize hp : S.getD i (default, 0, 0) = p at hx hgd hev hscp
   have c3 := hrs p.1 hx
   generalize hrb : rsB f (sdS pl p.1) = rb at c3 hev
   have hlen := stdL_len r f pl S
   (refine x_gs (zc @okL_tk (zc @hkB (zc @hek (zc @hgd (zc @elA.eq_1 (zc @elC.eq_1 @hlen)))))) ?_)
   (apply Run.alcAt 4; (exact x_ev (zc @okL_tk (zc @hkB (zc @hek (zc @hgd (zc @elA.eq_1 (zc @elC.eq_1 @hlen))))))); ((try simp only [push_cast, seval, okL_tk, hkB, hek, hgd, elA, elC, hlen]) <;> exact sT); exact rfl; (try simp only [push_cast, seval, okL_tk, hkB, hek, hgd, elA, elC, hlen]))
   (refine x_go (zc @okL_tk (zc @hkB (zc @hek (zc @hgd (zc @elA.eq_1 (zc @elC.eq_1 @hlen)))))) ?_)
   (apply Run.pureP; (exact x_ev (zc @okL_tk (zc @hkB (zc @hek (zc @hgd (zc @elA.eq_1 (zc @elC.eq_1 @hlen))))))); (exact (Enters.of Tryz.func51 rfl rfl)); (exact c3); (exact x_al (zc @okL_tk (zc @hkB (zc @hek (zc @hgd (zc @elA.eq_1 (zc @elC.eq_1 @hlen))))))); (try dsimp only [putA, optG]))
   (refine x_go (zc @okL_tk (zc @hkB (zc @hek (zc @hgd (zc @elA.eq_1 (zc @elC.eq_1 @hlen)))))) ?_)
   refine Wp.meetS { t := [(8, .lst 3 TA), (9, .clo 48 []), (10, .osl 2 S.length 0 S.length), (11, .omap 3 1), (12, .int (enV f pl S (i + 1))), (13, .int i), (14, .optr 4 (v4 + 1) 0 0)], m := lsM r f pl S ⟨v4 + 1, .row 15 [.agg (kX r f pl p.1)]⟩ g, n := 131 } ?_ ?_
   ·(apply Wp.cond; (exact x_ev (zc @okL_tk (zc @hkB (zc @hek (zc @hgd (zc @elA.eq_1 (zc @elC.eq_1 @hlen))))))))
    ·intro h4
     rw [if_pos (by simpa using h4)] at hev
     (refine x_go (zc @okL_tk (zc @hkB (zc @hek (zc @hgd (zc @elA.eq_1 (zc @elC.eq_1 @hlen)))))) ?_)
     rw [hev]
     (refine Le.of ?_ ?_ rfl rfl <;> (try simp only [push_cast, seval, okL_tk, hkB, hek, hgd, elA, elC, hlen]) <;> (try (with_reducible rfl)))
    ·intro h4
     rw [if_neg (by simpa using h4)] at hev
     (refine x_go (zc @okL_tk (zc @hkB (zc @hek (zc @hgd (zc @elA.eq_1 (zc @elC.eq_1 @hlen)))))) ?_)
     rw [hev]
     (refine Le.of ?_ ?_ rfl rfl <;> (try simp only [push_cast, seval, okL_tk, hkB, hek, hgd, elA, elC, hlen]) <;> (try (with_reducible rfl)))
   ·(try dsimp only [sQ, tQ, bQ])
    intro s' hs'
    refine Wp.le hs' ?_
    clear hs' hev c3
    (refine x_go (zc @okL_tk (zc @hkB @hek)) ?_)
    have hTAl : TA.length = (tkL r).length := by rw [← hTk, List.length_map]
    have hpl2 : p.1.ts.length = r.ts.length ∧ p.1.pp.length = r.pp.length := ⟨hx.1.ts, hx.1.pp⟩
    refine Wp.loop (fun (q : Nat × SL Sd × G5) => { t := [(8, .lst 3 TA), (9, .clo 48 []), (10, .osl 2 q.2.1.length 0 q.2.1.length), (11, .omap 3 1), (12, .int (enV f pl S (i + 1))), (13, .int i), (14, .optr 4 (v4 + 1) 0 0), (68, .lst 3 TA), (69, .int (tkL r).length), (70, .int q.1)], m := lsM r f pl q.2.1 ⟨v4 + 1, .row 15 [.agg (kX r f pl p.1)]⟩ q.2.2, n := 131 })
     (fun q => q.1 ≤ (tkL r).length ∧ srow (nxR r f pl) 4000 S i q.1 = some q.2.1 ∧ q.2.1.length ≤ 4000 ∧ allOk r pl q.2.1) (fun q => (tkL r).length - q.1) (0, S, g) ?_ ?_ ?_
    ·rw [← hTAl]
     (refine Le.of ?_ ?_ rfl rfl <;> (try simp only [push_cast, seval, okL_tk, hkB, hek]) <;> (try (with_reducible rfl)))
    ·exact ⟨by simp, rfl, hi2, hi3⟩
    ·rintro ⟨k, S', ⟨v5, v6, v7, v8, v9, k5, k6, k7, k8, k9⟩⟩ ⟨hk1, hk2, hk3, hk4⟩
     simp only at hk1 hk2 hk3 hk4
     (refine x_go (zc @okL_tk (zc @hkB @hek)) ?_)
     (apply Wp.cond; (exact x_ev (zc @okL_tk (zc @hkB @hek))))
     ·intro hk5
      have hk5 : k < (tkL r).length := by simpa using hk5
      have hlen2 := stdL_len r f pl S'
      have hold := srow_old k hk2
      have hle := (srow_len _ k hk2).1
      have hsi : sc S' i = p.1 := by unfold sc; rw [hold i hc, hp]
      have hst := srow_succ (nxR r f pl) 4000 S i k hk2
      have htg : ∀ d, TA.getD k d = tkA ((tkL r).getD k tk0) := fun d => by rw [← hTk]; exact getD_tk d hk5
      have hnx : nxR r f pl p.1 k = if canB r f (sdS pl p.1) p.1.at_ ((tkL r).getD k tk0) = true then nxT r f pl p.1 ((tkL r).getD k tk0) else p.1 := rfl
      obtain ⟨t, ht⟩ : ∃ t, (tkL r).getD k tk0 = t := ⟨_, rfl⟩
      rw [ht] at hnx
      simp only [ht] at htg
      have c4 := hcn p.1 hx t
      unfold sstep at hst
      rw [hsi] at hst
      unfold tkA at c4
      cases hcb : canB r f (sdS pl p.1) p.1.at_ t with
      | false =>
       rw [hcb] at c4 hnx
       rw [if_neg (by simp)] at hnx
       rw [hnx, if_pos (sk_iff.2 ⟨i, by omega, hsi⟩)] at hst
       (refine x_gs (zc @okL_tk (zc @hkB (zc @hek (zc @htg (zc @tkA.eq_1 @hTAl))))) ?_)
       (apply Run.alcAt 5; (exact x_ev (zc @okL_tk (zc @hkB (zc @hek (zc @htg (zc @tkA.eq_1 @hTAl)))))); ((try simp only [push_cast, seval, okL_tk, hkB, hek, htg, tkA, hTAl]) <;> exact sT); exact rfl; (try simp only [push_cast, seval, okL_tk, hkB, hek, htg, tkA, hTAl]))
       (refine x_go (zc @okL_tk (zc @hkB (zc @hek (zc @htg (zc @tkA.eq_1 @hTAl))))) ?_)
       (apply Run.pureP; (exact x_ev (zc @okL_tk (zc @hkB (zc @hek (zc @htg (zc @tkA.eq_1 @hTAl)))))); (exact (Enters.of Tryz.func52 rfl rfl)); (exact c4); (exact x_al (zc @okL_tk (zc @hkB (zc @hek (zc @htg (zc @tkA.eq_1 @hTAl)))))); (try dsimp only [putA, optG]))
       (refine x_gg (zc @okL_tk (zc @hkB (zc @hek (zc @htg (zc @tkA.eq_1 @hTAl))))) ?_)
       refine ⟨(k + 1, S', ⟨v5 + 1, v6, v7, v8, v9, .row 3 [tkA t], k6, k7, k8, k9⟩), ?_, ⟨by simp only; omega, hst, hk3, hk4⟩, by simp only; omega⟩
       (refine Le.of ?_ ?_ rfl rfl <;> (try simp only [push_cast, seval, okL_tk, hkB, hek, htg, tkA, hTAl]) <;> (try (with_reducible rfl)))
      | true =>
       rw [hcb] at c4 hnx
       rw [if_pos rfl] at hnx
       rw [hnx] at hst
       have hy := nx_ok hv hf hx hcb
       have c5 := hcp p.1 hx
       have c6 := do_spec hv hf (s := sdS pl p.1) hx.1 (a := p.1.at_) ⟨hx.2.1, by have := hx.2.2; have := hv.ps; omega⟩ hcb (a0 := ⟨1, .row 8 []⟩) (a1 := ⟨1, .row 3 []⟩) (a2 := ⟨S'.length, .row 19 (stdL r f pl S')⟩) (a3 := ⟨1, .mp (mpK sdK S')⟩) (a4 := ⟨v4 + 1, .row 15 [.agg (kX r f pl p.1)]⟩) (a5 := ⟨v5 + 1, .row 3 [tkA t]⟩) trivial trivial (by show okL 10 _; rw [okL_std]; trivial) (mpK_ok S' 10) (okL_kX 10 r f pl p.1) (by simp [Kind.ok, okL, AV.ok, tkA]) (v6 + 1) (v7 + 1) (v8 + 1) (v9 + 1)
       rw [← nx_sdS, show doA r p.1.at_ t = (nxT r f pl p.1 t).at_ from rfl] at c6
       generalize nxT r f pl p.1 t = y at *
       have hyl : y.ts.length = p.1.ts.length ∧ y.pp.length = p.1.pp.length := ⟨hy.1.ts.trans hx.1.ts.symm, hy.1.pp.trans hx.1.pp.symm⟩
       unfold sdS at c6
       unfold stA at c5
       simp only at c5 c6
       unfold tkA at c6
       have c7 := hkp y hy
       have hfd := findL_mpK (K := sdK) (S := S') (c := y) fun j hj e => sd_inj hv (hk4 j hj) hy e
       (refine x_gs (zc @okL_tk (zc @hkB (zc @hek (zc @htg (zc @tkA.eq_1 (zc @hTAl @Bool.not_true)))))) ?_)
       (apply Run.alcAt 5; (exact x_ev (zc @okL_tk (zc @hkB (zc @hek (zc @htg (zc @tkA.eq_1 (zc @hTAl @Bool.not_true))))))); ((try simp only [push_cast, seval, okL_tk, hkB, hek, htg, tkA, hTAl, Bool.not_true]) <;> exact sT); exact rfl; (try simp only [push_cast, seval, okL_tk, hkB, hek, htg, tkA, hTAl, Bool.not_true]))
       (refine x_go (zc @okL_tk (zc @hkB (zc @hek (zc @htg (zc @tkA.eq_1 (zc @hTAl @Bool.not_true)))))) ?_)
       (apply Run.pureP; (exact x_ev (zc @okL_tk (zc @hkB (zc @hek (zc @htg (zc @tkA.eq_1 (zc @hTAl @Bool.not_true))))))); (exact (Enters.of Tryz.func52 rfl rfl)); (exact c4); (exact x_al (zc @okL_tk (zc @hkB (zc @hek (zc @htg (zc @tkA.eq_1 (zc @hTAl @Bool.not_true))))))); (try dsimp only [putA, optG]))
       (refine x_gq (zc @okL_tk (zc @hkB (zc @hek (zc @htg (zc @tkA.eq_1 (zc @hTAl @Bool.not_true)))))) ?_)
       (apply Run.alcAt 6; (exact x_ev (zc @okL_tk (zc @hkB (zc @hek (zc @htg (zc @tkA.eq_1 (zc @hTAl @Bool.not_true))))))); ((try simp only [push_cast, seval, okL_tk, hkB, hek, htg, tkA, hTAl, Bool.not_true]) <;> exact sT); exact rfl; (try simp only [push_cast, seval, okL_tk, hkB, hek, htg, tkA, hTAl, Bool.not_true]))
       (refine x_go (zc @okL_tk (zc @hkB (zc @hek (zc @htg (zc @tkA.eq_1 (zc @hTAl @Bool.not_true)))))) ?_)
       (apply Run.fresh3At 7 8 9; (exact x_ev (zc @okL_tk (zc @hkB (zc @hek (zc @htg (zc @tkA.eq_1 (zc @hTAl @Bool.not_true))))))); (exact (Enters.of Tryz.func53 rfl rfl)); (exact c5); (exact VwL.cons (x := .agg [.ints p.1.ts, .ints p.1.pp, .ints pl]) (Vw.self (by simp [AV.ok, okL, okL_mapInt])) VwL.nil); (refine ⟨?_, ?_, ?_⟩ <;> (simp only [push_cast, seval, okL_tk, hkB, hek, htg, tkA, hTAl, Bool.not_true] <;> first | trivial | (simp; done))); (exact ⟨rfl, rfl, rfl⟩); (exact ⟨by decide, by decide, by decide⟩); (try dsimp only [putA, set3, List.set_cons_succ, List.set_cons_zero, List.set]))
       (refine x_go (zc @okL_tk (zc @hkB (zc @hek (zc @htg (zc @tkA.eq_1 (zc @hTAl @Bool.not_true)))))) ?_)
       (apply Run.spec (he := (Enters.of Tryz.func54 rfl rfl)); exact rfl; (simp only [push_cast, seval, okL_tk, hkB, hek, htg, tkA, hTAl, Bool.not_true] <;> first | exact rfl | assumption); (exact x_ev (zc @okL_tk (zc @hkB (zc @hek (zc @htg (zc @tkA.eq_1 (zc @hTAl @Bool.not_true))))))); (exact c6); (rintro _ _ ⟨rfl, rfl⟩; dsimp only [Go.Vg.S.put, optG]))
       (repeat (refine x_nr (zc @okL_tk (zc @hkB (zc @hek (zc @htg (zc @tkA.eq_1 (zc @hTAl @Bool.not_true)))))) ?_))
       (apply Run.nil; dsimp only [sQ, tQ, bQ])
       refine Wp.freezeRow 6 7 (vi := v7 + 1) (off := 0) (len := p.1.ts.length) (szi := 1) (li := y.ts.map AV.int) (le' := [.agg (kO r f (.ints y.ts) (.osl 8 (v8 + 1) 0 p.1.pp.length) (.osl 9 (v9 + 1) 0 pl.length) (.int y.at_))]) (by decide) rfl rfl (by simp [hyl.1]) (by decide) ⟨.inr ⟨_, _, rfl, rfl, .inl rfl, .inl rfl, .inl rfl, .inl rfl, .inl rfl, .inl rfl, .inl rfl, .inl rfl, .inl rfl, .inl rfl, .inl rfl, .inr ⟨rfl, by simp [← hyl.1, List.take_of_length_le]⟩, .inl rfl, .inl rfl, .inl rfl, trivial⟩, trivial⟩ ?_
       try simp only [List.set_cons_succ, List.set_cons_zero]
       refine Wp.freezeRow 6 8 (vi := v8 + 1) (off := 0) (len := p.1.pp.length) (szi := 1) (li := y.pp.map AV.int) (le' := [.agg (kO r f (.ints y.ts) (.ints y.pp) (.osl 9 (v9 + 1) 0 pl.length) (.int y.at_))]) (by decide) rfl rfl (by simp [hyl.2]) (by decide) ⟨.inr ⟨_, _, rfl, rfl, .inl rfl, .inl rfl, .inl rfl, .inl rfl, .inl rfl, .inl rfl, .inl rfl, .inl rfl, .inl rfl, .inl rfl, .inl rfl, .inl rfl, .inr ⟨rfl, by simp [← hyl.2, List.take_of_length_le]⟩, .inl rfl, .inl rfl, trivial⟩, trivial⟩ ?_
       try simp only [List.set_cons_succ, List.set_cons_zero]
       refine Wp.freezeRow 6 9 (vi := v9 + 1) (off := 0) (len := pl.length) (szi := 1) (li := pl.map AV.int) (le' := [.agg (kX r f pl y)]) (by decide) rfl rfl (by simp) (by decide) ⟨.inr ⟨_, _, rfl, rfl, .inl rfl, .inl rfl, .inl rfl, .inl rfl, .inl rfl, .inl rfl, .inl rfl, .inl rfl, .inl rfl, .inl rfl, .inl rfl, .inl rfl, .inl rfl, .inr ⟨rfl, by simp [List.take_of_length_le]⟩, .inl rfl, trivial⟩, trivial⟩ ?_
       try simp only [List.set_cons_succ, List.set_cons_zero]
       cases hsk : sk S' y with
       | true =>
        rw [if_pos hsk] at hst
        rw [hsk, if_pos rfl] at hfd
        (refine x_go (zc @okL_tk (zc @hkB (zc @hek (zc @htg (zc @tkA.eq_1 (zc @hTAl (zc @Bool.not_true (zc @hfd (zc (hgk y hy) (hgl S' hk4)))))))))) ?_)
        (apply Run.pureFP; (exact x_ev (zc @okL_tk (zc @hkB (zc @hek (zc @htg (zc @tkA.eq_1 (zc @hTAl (zc @Bool.not_true (zc @hfd (zc (hgk y hy) (hgl S' hk4))))))))))); (exact (Enters.of Tryz.func48 rfl rfl)); (exact c7); (exact x_al (zc @okL_tk (zc @hkB (zc @hek (zc @htg (zc @tkA.eq_1 (zc @hTAl (zc @Bool.not_true (zc @hfd (zc (hgk y hy) (hgl S' hk4))))))))))); (try dsimp only [putA, optG]))
        (refine x_gg (zc @okL_tk (zc @hkB (zc @hek (zc @htg (zc @tkA.eq_1 (zc @hTAl (zc @Bool.not_true (zc @hfd (zc (hgk y hy) (hgl S' hk4)))))))))) ?_)
        refine ⟨(k + 1, S', ⟨v5 + 1, v6 + 1, v7 + 1 + 1, v8 + 1 + 1, v9 + 1 + 1, .row 3 [tkA t], .row 15 [.agg (kX r f pl y)], .row 1 [], .row 1 [], .row 1 []⟩), ?_, ⟨by simp only; omega, hst, hk3, hk4⟩, by simp only; omega⟩
        (refine Le.of ?_ ?_ rfl rfl <;> (try simp only [push_cast, seval, okL_tk, hkB, hek, htg, tkA, hTAl, Bool.not_true, hfd, hgk y hy, hgl S' hk4]) <;> (try (with_reducible rfl)))
       | false =>
        rw [if_neg (by rw [hsk]; simp)] at hst
        rw [hsk, if_neg (by simp)] at hfd
        by_cases hbig : S'.length = 4000
        ·rw [if_pos hbig] at hst
         have e9 : decide ((S'.length : Int) = 4000) = true := decide_eq_true (by omega)
         (refine x_go (zc @okL_tk (zc @hkB (zc @hek (zc @htg (zc @tkA.eq_1 (zc @hTAl (zc @Bool.not_true (zc @hfd (zc (hgk y hy) (zc (hgl S' hk4) @e9)))))))))) ?_)
         (apply Run.pureFP; (exact x_ev (zc @okL_tk (zc @hkB (zc @hek (zc @htg (zc @tkA.eq_1 (zc @hTAl (zc @Bool.not_true (zc @hfd (zc (hgk y hy) (zc (hgl S' hk4) @e9))))))))))); (exact (Enters.of Tryz.func48 rfl rfl)); (exact c7); (exact x_al (zc @okL_tk (zc @hkB (zc @hek (zc @htg (zc @tkA.eq_1 (zc @hTAl (zc @Bool.not_true (zc @hfd (zc (hgk y hy) (zc (hgl S' hk4) @e9))))))))))); (try dsimp only [putA, optG]))
         (refine x_gg (zc @okL_tk (zc @hkB (zc @hek (zc @htg (zc @tkA.eq_1 (zc @hTAl (zc @Bool.not_true (zc @hfd (zc (hgk y hy) (zc (hgl S' hk4) @e9)))))))))) ?_)
         (first | exact x_retA (zc @okL_tk (zc @hkB (zc @hek (zc @htg (zc @tkA.eq_1 (zc @hTAl (zc @Bool.not_true (zc @hfd (zc (hgk y hy) (zc (hgl S' hk4) @e9)))))))))) | refine x_retAZ (zc @okL_tk (zc @hkB (zc @hek (zc @htg (zc @tkA.eq_1 (zc @hTAl (zc @Bool.not_true (zc @hfd (zc (hgk y hy) (zc (hgl S' hk4) @e9)))))))))) ?_)
         have hn := srow_none hst ((tkL r).length - (k + 1))
         rw [show k + 1 + ((tkL r).length - (k + 1)) = (tkL r).length by omega] at hn
         rw [hn] at hrun
         subst hrun
         exact Vw.tup (.cons .emp (.cons (Vw.self trivial) .nil))
        ·rw [if_neg hbig] at hst
         have e9 : decide ((S'.length : Int) = 4000) = false := decide_eq_false (by omega)
         have hup : updL (mpK sdK S') (.string (sdK y)) (.int (S'.length : Int)) = mpK sdK (S' ++ [(y, i, k)]) := by
          rw [updL_new _ _ _ hfd, mpK_snoc]
         have hS2 : 0 < S'.length := by omega
         have hsn : stdL r f pl S' ++ [.agg [.strs r.ps, .lst 4 (r.ts.map thA), .lst 3 (r.pp.map ppA), .lst 3 (r.wy.map wyA), .lst 8 (r.ac.map acA), .lst 3 (r.au.map auA), .int r.n, .lst 3 (r.goal.map ltA), .ints f.ts, .ints f.pp, .ints f.pl, .ints y.ts, .ints y.pp, .ints pl, .int y.at_, .int i, .int t.kd, .int t.nu, .int t.ar]] = stdL r f pl (S' ++ [(y, i, k)]) := by
          rw [stdL_snoc]
          unfold elA elC elT elB
          simp only [if_neg (show ¬ S'.length = 0 by omega), ht]
         have htk : (stdL r f pl S').take S'.length = stdL r f pl S' := List.take_of_length_le (by omega)
         (refine x_go (zc @okL_tk (zc @hkB (zc @hek (zc @htg (zc @tkA.eq_1 (zc @hTAl (zc @Bool.not_true (zc @hfd (zc (hgk y hy) (zc (hgl S' hk4) (zc @e9 (zc @hup (zc @hlen2 @htk))))))))))))) ?_)
         (apply Run.pureFP; (exact x_ev (zc @okL_tk (zc @hkB (zc @hek (zc @htg (zc @tkA.eq_1 (zc @hTAl (zc @Bool.not_true (zc @hfd (zc (hgk y hy) (zc (hgl S' hk4) (zc @e9 (zc @hup (zc @hlen2 @htk)))))))))))))); (exact (Enters.of Tryz.func48 rfl rfl)); (exact c7); (exact x_al (zc @okL_tk (zc @hkB (zc @hek (zc @htg (zc @tkA.eq_1 (zc @hTAl (zc @Bool.not_true (zc @hfd (zc (hgk y hy) (zc (hgl S' hk4) (zc @e9 (zc @hup (zc @hlen2 @htk)))))))))))))); (try dsimp only [putA, optG]))
         (refine x_gg (zc @okL_tk (zc @hkB (zc @hek (zc @htg (zc @tkA.eq_1 (zc @hTAl (zc @Bool.not_true (zc @hfd (zc (hgk y hy) (zc (hgl S' hk4) (zc @e9 (zc @hup (zc @hlen2 @htk))))))))))))) ?_)
         (apply Run.pureFP; (exact x_ev (zc @okL_tk (zc @hkB (zc @hek (zc @htg (zc @tkA.eq_1 (zc @hTAl (zc @Bool.not_true (zc @hfd (zc (hgk y hy) (zc (hgl S' hk4) (zc @e9 (zc @hup (zc @hlen2 @htk)))))))))))))); (exact (Enters.of Tryz.func48 rfl rfl)); (exact c7); (exact x_al (zc @okL_tk (zc @hkB (zc @hek (zc @htg (zc @tkA.eq_1 (zc @hTAl (zc @Bool.not_true (zc @hfd (zc (hgk y hy) (zc (hgl S' hk4) (zc @e9 (zc @hup (zc @hlen2 @htk)))))))))))))); (try dsimp only [putA, optG]))
         (refine x_gs (zc @okL_tk (zc @hkB (zc @hek (zc @htg (zc @tkA.eq_1 (zc @hTAl (zc @Bool.not_true (zc @hfd (zc (hgk y hy) (zc (hgl S' hk4) (zc @e9 (zc @hup (zc @hlen2 @htk))))))))))))) ?_)
         refine ⟨(k + 1, S' ++ [(y, i, k)], ⟨v5 + 1, v6 + 1, v7 + 1 + 1, v8 + 1 + 1, v9 + 1 + 1, .row 3 [tkA t], .row 15 [.agg (kX r f pl y)], .row 1 [], .row 1 [], .row 1 []⟩), ?_, ⟨by simp only; omega, hst, by simp; omega, allOk_snoc hk4 hy⟩, by simp only; omega⟩
         simp only [← hsn, List.length_append, List.length_singleton]
         (refine Le.of ?_ ?_ rfl rfl <;> (try simp only [push_cast, seval, okL_tk, hkB, hek, htg, tkA, hTAl, Bool.not_true, hfd, hgk y hy, hgl S' hk4, e9, hup, hlen2, htk]) <;> (try (with_reducible rfl)))
         all_goals (rw [hsn]; simp only [lsM, List.length_append, List.length_singleton])
     ·intro hk5
      have hk5 : k = (tkL r).length := by
       have : ¬ k < (tkL r).length := by simpa using hk5
       omega
      subst hk5
      have hold := srow_old _ hk2
      have hle := (srow_len _ _ hk2).1
      have hev2 : enV f pl S (i + 1) = enV f pl S' (i + 1) := by
       unfold enV
       rw [enN_old (fun j hj => by unfold sc; rw [hold j (by omega)])]
      rw [hk2] at hrun
      (refine x_go (zc @okL_tk (zc @hkB @hek)) ?_)
      refine ⟨(i + 1, S', (v4 + 1, .row 15 [.agg (kX r f pl p.1)]), ⟨v5, v6, v7, v8, v9, k5, k6, k7, k8, k9⟩), ?_, ⟨by simp only; omega, hk3, hk4, by simp only; omega, hrun⟩, by simp only; omega⟩
      simp only [← hev2]
      (refine Le.of ?_ ?_ rfl rfl <;> (try simp only [push_cast, seval, okL_tk, hkB, hek]) <;> (try (with_reducible rfl)))
  ·(intro hc; first | replace hc := bT hc | skip)
   obtain rfl : i = S.length := by omega
   have htt : tot = some S := by
    rw [← hi5, show 4001 - S.length = (4000 - S.length) + 1 by omega]
    show (if S.length < S.length then _ else _) = _
    rw [if_neg (Nat.lt_irrefl _)]
   have hbk := hsq S htt
   subst htt
   have hlen := stdL_len r f pl S
   cases hen : enN f pl S S.length with
   | none =>
    have hev : enV f pl S S.length = -1 := by unfold enV; rw [hen]
    (refine x_gg (zc @okL_tk (zc @hkB (zc @hek @hev))) ?_)
    (first | exact x_retA (zc @okL_tk (zc @hkB (zc @hek @hev))) | refine x_retAZ (zc @okL_tk (zc @hkB (zc @hek @hev))) ?_)
    simp only [hen]
    exact Vw.tup (.cons .emp (.cons (Vw.self trivial) .nil))
   | some e =>
    have hev : enV f pl S S.length = e := by unfold enV; rw [hen]
    have hel := (enN_lt hen).1
    have e9 : decide ((e : Int) < 0) = false := decide_eq_false (by omega)
    simp only [hen]
    generalize hk : (fun k => (tkL r).getD k tk0) = gt
    have hgt : ∀ k, (tkL r).getD k tk0 = gt k := fun k => by rw [← hk]
    (refine x_gg (zc @okL_tk (zc @hkB (zc @hek (zc @hev (zc @e9 @hlen))))) ?_)
    (repeat (first | apply Wp.seq | apply Wp.block | (apply Wp.skip; dsimp only [sQ, tQ, bQ])))
    apply Wp.adopt 20 3; (exact x_ev (zc @okL_tk (zc @hkB (zc @hek (zc @hev (zc @e9 @hlen))))))
    (refine x_go (zc @okL_tk (zc @hkB (zc @hek (zc @hev (zc @e9 @hlen))))) ?_)
    refine Wp.loop (fun (q : Nat × List Nat) => { t := [(10, .osl 2 S.length 0 S.length), (20, .osl 10 q.2.length 0 q.2.length), (21, .int q.1)], m := lsM r f pl S ⟨v4, k4⟩ g ++ [⟨q.2.length, .row 3 ((q.2.map gt).map tkA)⟩], n := 131 })
     (fun q => q.1 + q.2.length ≤ e ∧ pth S e e = q.2 ++ pth S (e - q.2.length) q.1) (fun q => q.1) (e, []) ?_ ?_ ?_
    ·(refine Le.of ?_ ?_ rfl rfl <;> (try simp only [push_cast, seval, okL_tk, hkB, hek, hev, e9, hlen]) <;> (try (with_reducible rfl)))
     all_goals (first | exact ⟨rfl, rfl⟩ | rfl)
    ·exact ⟨by simp, by simp⟩
    ·rintro ⟨i, L⟩ ⟨hL1, hL2⟩
     simp only at hL1 hL2
     (refine x_go (zc @okL_tk (zc @hkB (zc @hek (zc @hev (zc @e9 @hlen))))) ?_)
     (apply Wp.cond; (exact x_ev (zc @okL_tk (zc @hkB (zc @hek (zc @hev (zc @e9 @hlen)))))))
     ·intro hi6
      have hi6 : 0 < i := by simpa using hi6
      have hiS : i < S.length := by omega
      have hgd := fun d => stdL_getD (r := r) (f := f) (pl := pl) (S := S) d hiS
      have hb := hbk i hi6 hiS
      have hpn : pth S (e - L.length) i = st' S i :: pth S (e - (L.length + 1)) (sb S i) := by
       rw [show e - L.length = (e - (L.length + 1)) + 1 by omega]
       show (if i = 0 then [] else _) = _
       rw [if_neg (by omega)]
      have hs1 : st' S i = (S.getD i (default, 0, 0)).2.2 := rfl
      have hs2 : sb S i = (S.getD i (default, 0, 0)).2.1 := rfl
      obtain ⟨p, hp⟩ : ∃ p, S.getD i (default, 0, 0) = p := ⟨_, rfl⟩
      rw [hp] at hs1 hs2
      simp only [hp] at hgd
      rw [hs1, hs2] at hpn
      rw [hs2] at hb
      have heT : elT r i p = gt p.2.2 := by unfold elT; rw [if_neg (by omega), hgt]
      have heB : elB i p = p.2.1 := by unfold elB; rw [if_neg (by omega)]
      have hU : ((L.map gt).map tkA).take L.length = (L.map gt).map tkA := List.take_of_length_le (by simp)
      (refine x_gs (zc @okL_tk (zc @hkB (zc @hek (zc @hlen (zc @hgd (zc @elA.eq_1 (zc @elC.eq_1 (zc @heT (zc @heB (zc @lenMp @hU)))))))))) ?_)
      refine ⟨(p.2.1, L ++ [p.2.2]), ?_, ⟨by simp; omega, by simp only [List.length_append, List.length_singleton]; rw [hL2, hpn]; simp⟩, hb⟩
      simp only [List.map_append, List.map_cons, List.map_nil, List.length_append, List.length_singleton, tkA]
      (refine Le.of ?_ ?_ rfl rfl <;> (try simp only [push_cast, seval, okL_tk, hkB, hek, hlen, hgd, elA, elC, heT, heB, List.length_map, hU]) <;> (try (with_reducible rfl)))
     ·intro hi6
      have hi6 : i = 0 := by simpa using hi6
      subst hi6
      have hpz : pth S (e - L.length) 0 = [] := by cases e - L.length <;> rfl
      rw [hpz, List.append_nil] at hL2
      rw [hL2]
      have hrv := fun a0 a1 a2 a3 a4 a5 a6 a7 a8 a9 => rev_spec (a0 := a0) (a1 := a1) (a2 := a2) (a3 := a3) (a4 := a4) (a5 := a5) (a6 := a6) (a7 := a7) (a8 := a8) (a9 := a9) L.length (L.map gt) (by simp; omega)
      rw [List.length_map] at hrv
      (refine x_go (zc @okL_tk (zc @hkB (zc @hek @hlen))) ?_)
      (apply Run.spec (he := (Enters.of Tryz.func55 rfl rfl)); exact rfl; (simp only [push_cast, seval, okL_tk, hkB, hek, hlen] <;> first | exact rfl | assumption); (exact x_ev (zc @okL_tk (zc @hkB (zc @hek @hlen)))); (exact hrv _ _ _ _ _ _ _ _ _ _); (rintro _ _ ⟨rfl, rfl⟩; dsimp only [Go.Vg.S.put, optG]))
      (refine x_go (zc @okL_tk (zc @hkB (zc @hek @hlen))) ?_)
      (first | exact x_retA (zc @okL_tk (zc @hkB (zc @hek @hlen))) | refine x_retAZ (zc @okL_tk (zc @hkB (zc @hek @hlen))) ?_)
      exact Vw.tup (.cons (Vw.osl rfl (by simp) (by decide) (by rw [List.drop_zero, List.take_of_length_le (by simp)]; exact VwL.okAll (by rw [okL_tk]; trivial))) (.cons (Vw.self trivial) .nil))
end Go.Proofs.Tryz
set_option maxHeartbeats 16000000
namespace Go.Proofs.Tryz
open Go.Vg
end Go.Proofs.Tryz
namespace Go.Vg
open Go.RowKit
variable {P : Program}
section
variable {gds : List (Option Nat)} {ops l : List Oper} {m F : Mem} {B0 B1 : Ent} {n k c b e : Nat} {t t' : List (Nat × AV)} {x : AV} {p : Prop} {dst : Option Nat} {op : Op} {type : TypeId} {pos : String} {after : Array Edge}
end
end Go.Vg
set_option maxHeartbeats 16000000
namespace Go.Proofs.Tryz
open Go.Vg
end Go.Proofs.Tryz
set_option maxHeartbeats 16000000
namespace Go.Proofs.Tryz
open Go.Vg
end Go.Proofs.Tryz
namespace Go.Vg.Ek
open Go.RowKit
variable {P : Program}
structure EvP where
 n : Nat
 kn : FuncId → Option (Mem → List AV → Option (List AV × AV))
def vwB (m : Mem) : Nat → AV → AV → Bool
 | 0, _, _ => false
 | n + 1, x, y =>
  let go : List AV → List AV → Bool := fun xs ys => (List.zipWith (vwB m n) xs ys).all id && Nat.beq xs.length ys.length
  match x, y with
  | .osl id ver off len, .lst sz ys => (match rowM m id ver with
   | some (sz', l) => (match Nat.beq sz' sz, Nat.ble (off + len) l.length, Nat.ble 1 sz with
    | true, true, true => go ((l.drop off).take len) ys
    | _, _, _ => false)
   | none => false)
  | .optr id ver i j, .ref ys j' => (match Nat.beq j j', rowM m id ver with
   | true, some (_, l) => (match l[i]? with
    | some x => (match Nat.ble (j + 1) x.cells.length with
     | true => go x.cells ys
     | false => false)
    | none => false)
   | _, _ => false)
  | .agg xs, .agg ys => go xs ys
  | .emp, .lst _ [] => true
  | x, y => (match mxV x with
   | 0 => eqV x y
   | _ => false)
def vwBL (m : Mem) (n : Nat) (xs ys : List AV) : Bool := (List.zipWith (vwB m n) xs ys).all id && Nat.beq xs.length ys.length
theorem vwBL_of {m : Mem} {g : AV → AV → Bool} (hg : ∀ x y, g x y = true → Vw m x y) : ∀ {xs ys : List AV}, ((List.zipWith g xs ys).all id && Nat.beq xs.length ys.length) = true → VwL m xs ys
 | [], [], _ => .nil
 | [], _ :: _, h => by simp at h
 | _ :: _, [], h => by simp at h
 | x :: xs, y :: ys, h => by
  simp only [List.zipWith_cons_cons, List.all_cons, id, Bool.and_eq_true, List.length_cons, Nat.beq_eq] at h
  refine .cons (hg x y h.1.1) (vwBL_of hg ?_)
  simp only [Bool.and_eq_true, Nat.beq_eq]
  exact ⟨h.1.2, by omega⟩
theorem vwB_ok {m : Mem} : ∀ (n : Nat) (x y : AV), vwB m n x y = true → Vw m x y
 | 0, x, y, h => by cases h
 | n + 1, x, y, h => by
  have ih := fun x y => vwB_ok (m := m) n x y
  unfold vwB at h
  simp only at h
  split at h
  ·split at h
   ·rename_i sz' l hr
    split at h
    ·rename_i h1 h2 h3
     rw [Nat.beq_eq] at h1
     rw [Nat.ble_eq] at h2 h3
     subst h1
     exact .osl (rowM_ok hr) h2 (by omega) (vwBL_of ih h)
    ·cases h
   ·cases h
  ·split at h
   ·rename_i sz' l h1 hr
    rw [Nat.beq_eq] at h1
    subst h1
    split at h
    ·rename_i x hx
     split at h
     ·rename_i hj
      rw [Nat.ble_eq] at hj
      exact .optr (rowM_ok hr) hx (by omega) (vwBL_of ih h)
     ·cases h
    ·cases h
   ·cases h
  ·exact .agg (vwBL_of ih h)
  ·exact .emp
  ·split at h
   ·rename_i h0
    have e := eqV_ok _ _ h
    subst e
    exact .self (mxV_ok _ (by omega))
   ·cases h
def xF (P : Program) (nf : EvP) (ih : Code → S → Option (Exit × S)) (f : FuncId) (args : List AV) (m : Mem) : Option (AV × Mem) :=
 match nf.kn f with
 | some g =>
  match g m args with
  | some (va, x) =>
   match vwBL m 20 args va, plainB x with
   | true, true => some (x, m)
   | _, _ => none
  | none => none
 | none =>
 match Nat.ble (f + 1) nf.n, P.funcs[f]? with
 | true, some fn =>
  match fn.body, Nat.ble args.length fn.ntmps with
  | some c, true =>
   match ih c (entry args m fn.ntmps) with
   | some (.normal, s) => leaveC P fn.results.toList m.length s
   | some (.ret, s) => leaveC P fn.results.toList m.length s
   | _ => none
  | _, _ => none
 | _, _ => none
def Named (P : Program) (nf : EvP) : Prop := Go.Vg.Named P nf.n ∧ ∀ f g, nf.kn f = some g → Enters P f ∧ ∀ m args va x, g m args = some (va, x) → Pure P f va x
def Sound (P : Program) (ih : Code → S → Option (Exit × S)) : Prop := ∀ (r : Option Nat) (c : Code) (s s' : S) (e : Exit) (Q : Exit → S → Prop), ih c s = some (e, s') → Q e s' → Wp P r c Q s
def xO1 (P : Program) (nf : EvP) (ih : Code → S → Option (Exit × S)) (s : S) (dst : Option Nat) (op : Op) : Option S :=
 match op with
 | .call ⟨.value fo, args, tys⟩ => (match calleeC (evoC s.t fo) with
  | some (f, fs, cs) => (match xF P nf ih f (fs ++ (args.toList.map (evoC s.t) ++ cs)) s.m with
   | some (x, m') => some (putA ⟨s.t, m', s.n, s.d⟩ dst x)
   | none => none)
  | none => none)
 | op => match opC P s.t s.m op with
  | some (m', x) => fV x fun x => some (putA ⟨s.t, m', s.n, s.d⟩ dst x)
  | none => none
def xO (P : Program) (nf : EvP) (ih : Code → S → Option (Exit × S)) (gds : List (Option Nat)) (s : S) (o : Oper) : Option S :=
 match o.guard with
 | none => xO1 P nf ih s o.dst o.op
 | some g => match gvalC gds s.t g with
  | some true => xO1 P nf ih s o.dst o.op
  | some false => (match isDefer o.op with
   | true => none
   | false => some (putA s o.dst (.opt false (.bool false))))
  | none => none
def xL (P : Program) (nf : EvP) (ih : Code → S → Option (Exit × S)) (gds : List (Option Nat)) : List Oper → S → Option S
 | [], s => some s
 | o :: l, s => match xO P nf ih gds s o with
  | some s1 => xL P nf ih gds l s1
  | none => none
section
variable {gds : List (Option Nat)} {nf : EvP} {ih : Code → S → Option (Exit × S)} (hE : Named P nf) (hs : Sound P ih)
include hE hs
end
def xN1 (P : Program) (nf : EvP) (ih : Code → S → Option (Exit × S)) (s : S) (op : Op) : Option AV :=
 match op with
 | .call ⟨.value fo, args, tys⟩ => (match fnOf (evoC s.t fo) with
  | some (f, caps) => (match Nat.beq (mxL ((args.toList.map (evoC s.t) ++ caps).map (view s.m))) 0 with
   | true => (match xF P nf ih f ((args.toList.map (evoC s.t) ++ caps).map (view s.m)) [] with
    | some (x, []) => (match plainB x with
     | true => some x
     | false => none)
    | _ => none)
   | false => none)
  | none => none)
 | .pick c a b => (match evoC s.t c with
  | .val (.bool true) => some (evoC s.t a)
  | .val (.bool false) => some (evoC s.t b)
  | _ => none)
 | op => match evC P s.t s.m op with
  | some x => some x
  | none => match bldC P s.t op with
   | some (sz, xs) => some (.lst sz xs)
   | none => none
def xN (P : Program) (nf : EvP) (ih : Code → S → Option (Exit × S)) (gds : List (Option Nat)) : List Oper → S → Option S
 | [], s => some s
 | o :: l, s =>
  match (match o.guard with
   | none => xN1 P nf ih s o.op
   | some g => (match gvalC gds s.t g with
    | some true => xN1 P nf ih s o.op
    | some false => (match isDefer o.op with
     | true => none
     | false => some (.opt false (.bool false)))
    | none => none)) with
  | some x => fV x fun x => xN P nf ih gds l (putA s o.dst x)
  | none => none
section
variable {gds : List (Option Nat)} {nf : EvP} {ih : Code → S → Option (Exit × S)} (hE : Named P nf) (hs : Sound P ih)
include hE hs
end
def stepX1 (P : Program) (nf : EvP) (ih : Code → S → Option (Exit × S)) (t : List (Nat × AV)) (m : Mem) (op : Op) (aid : Nat) : Option (AV × Option Mem) :=
 match isAlc op with
 | true => (match alcC P t op, getM m aid with
  | some (sz, l, q), some e => setM m aid ⟨e.ver + 1, .row sz l⟩ fun m' => some (alcV aid (e.ver + 1) q, some m')
  | _, _ => none)
 | false =>
  match op with
  | .call ⟨.value fo, args, tys⟩ => (match fnOf (evoC t fo) with
   | some (f, caps) => (match xF P nf ih f (args.toList.map (evoC t) ++ caps) m with
    | some (x, m') => (match eqM m' m with
     | true => some (x, none)
     | false => some (x, some m'))
    | none => none)
   | none => none)
  | .pick c a b => (match evoC t c with
   | .val (.bool true) => some (evoC t a, none)
   | .val (.bool false) => some (evoC t b, none)
   | _ => none)
  | op => (match evC P t m op with
   | some x => some (x, none)
   | none => (match effC P t m op with
    | some (m', x) => some (x, some m')
    | none => none))
def stepX (P : Program) (nf : EvP) (ih : Code → S → Option (Exit × S)) (gds : List (Option Nat)) (t : List (Nat × AV)) (m : Mem) (o : Oper) (aid : Nat) : Option (AV × Option Mem) :=
 match o.guard with
 | none => stepX1 P nf ih t m o.op aid
 | some g => (match gvalC gds t g with
  | some true => stepX1 P nf ih t m o.op aid
  | some false => (match isDefer o.op with
   | true => none
   | false => some (.opt false (.bool false), none))
  | none => none)
section
variable {gds : List (Option Nat)} {nf : EvP} {ih : Code → S → Option (Exit × S)} (hE : Named P nf) (hs : Sound P ih)
include hE hs
end
structure Rec where
 t : List (Nat × AV)
 m : Mem
 o : Oper
 aid : Nat
 x : AV
 om : Option Mem
def ChainX (P : Program) (nf : EvP) (ih : Code → S → Option (Exit × S)) (gds : List (Option Nat)) : List Rec → List Oper → List (Nat × AV) → Mem → List (Nat × AV) → Prop
 | [], [], t, _, t' => t = t'
 | r :: rs, o :: l, t, m, t' => r.t = t ∧ r.m = m ∧ r.o = o ∧ stepX P nf ih gds r.t r.m r.o r.aid = some (r.x, r.om) ∧ ChainX P nf ih gds rs l (upd t o.dst r.x) (r.om.getD m) t'
 | _, _, _, _, _ => False
def firstX (P : Program) (nf : EvP) (ih : Code → S → Option (Exit × S)) (gds : List (Option Nat)) : List Oper → List (Nat × AV) → Mem → Nat → Option (List Rec × List (Nat × AV))
 | [], t, _, _ => some ([], t)
 | o :: l, t, m, aid =>
  match stepX P nf ih gds t m o aid with
  | some (x, om) => fV x fun x =>
   (match firstX P nf ih gds l (upd t o.dst x) (om.getD m) (match isAlc o.op with
    | true => aid + 1
    | false => aid) with
   | some (rs, t') => some (⟨t, m, o, aid, x, om⟩ :: rs, t')
   | none => none)
  | none => none
def effIdx : List Rec → Nat → List Nat
 | [], _ => []
 | r :: l, k => match r.om with
  | some _ => fN k fun k => k :: effIdx l (k + 1)
  | none => effIdx l (k + 1)
def effRec : List Rec → List Rec
 | [] => []
 | r :: l => match r.om with
  | some _ => r :: effRec l
  | none => effRec l
def lastM : List Rec → List Bool → Mem → Option Mem
 | r :: rs, true :: bs, m => lastM rs bs (r.om.getD m)
 | _, bs, m => match bs.any id with
  | true => none
  | false => some m
def foldM (P : Program) (gds : List (Option Nat)) : List Rec → List Bool → Mem → Mem
 | r :: rs, b :: bs, m => (match b with
  | true => (match stepX P ⟨0, fun _ => none⟩ (fun _ _ => none) gds r.t m r.o r.aid with
   | some (_, some m') => foldM P gds rs bs m'
   | _ => foldM P gds rs bs m)
  | false => foldM P gds rs bs m)
 | _, _, m => m
def memOf (P : Program) (gds : List (Option Nat)) (rs : List Rec) (mv : Mem) (bits : List Bool) : Mem :=
 match lastM rs bits mv with
 | some m => m
 | none => foldM P gds rs bits mv
def aimX (es : List Nat) (mem : List Bool → Mem) (k : Nat) (b : List Bool) : Option Mem → Bool
 | none => (match es.contains k with
  | false => true
  | true => eqM (mem b) (mem (setB es k b)))
 | some m' => eqM m' (mem (setB es k b))
def allX (P : Program) (nf : EvP) (ih : Code → S → Option (Exit × S)) (gds : List (Option Nat)) (es : List Nat) (mem : List Bool → Mem) (k : Nat) (r : Rec) : List (List Bool) → Bool
 | [] => true
 | b :: bs =>
  match (match (match r.om, r.o.op with
    | some _, _ => eqM r.m (mem b)
    | none, .call ⟨.value _, _, _⟩ => eqM r.m (mem b)
    | _, _ => false) with
   | true => aimX es mem k b r.om
   | false => (match stepX P nf ih gds r.t (mem b) r.o r.aid with
    | some (y, om) => (match eqV y r.x with
     | true => aimX es mem k b om
     | false => false)
    | none => false)) with
  | true => allX P nf ih gds es mem k r bs
  | false => false
def xM2 (P : Program) (nf : EvP) (ih : Code → S → Option (Exit × S)) (gds : List (Option Nat)) (ops : List Oper) (es : List Nat) (mem : List Bool → Mem) (n : Nat) : List Rec → Nat → Bool
 | [], _ => true
 | r :: rs, k =>
  match allX P nf ih gds es mem k r (consL ops es k), dstB n r.o.dst with
  | true, true => xM2 P nf ih gds ops es mem n rs (k + 1)
  | _, _ => false
def vacs (n : Nat) : Mem := List.replicate n ⟨0, .row 1 []⟩
def xM (P : Program) (nf : EvP) (ih : Code → S → Option (Exit × S)) (ops : List Oper) (s : S) : Option S :=
 match (ops.map (·.dst)).all (dstB s.n), ordB (ops.map (·.dst)) ops ops.length with
 | true, true =>
  fM (s.m.length + alcNo ops) (s.m ++ vacs (alcNo ops)) fun mv =>
  (match firstX P nf ih (ops.map (·.dst)) ops s.t mv s.m.length with
  | some (rs, t) =>
   (match xM2 P nf ih (ops.map (·.dst)) ops (effIdx rs 0) (memOf P (ops.map (·.dst)) (effRec rs) mv) s.n rs 0, (effIdx rs 0).all (fun e => Nat.ble (e + 1) ops.length) with
   | true, true => fM (memOf P (ops.map (·.dst)) (effRec rs) mv ((effIdx rs 0).map fun _ => true)).length (memOf P (ops.map (·.dst)) (effRec rs) mv ((effIdx rs 0).map fun _ => true)) fun m => some ⟨t, m, s.n, s.d⟩
   | _, _ => none)
  | none => none)
 | _, _ => none
section
variable {gds : List (Option Nat)} {nf : EvP} {ih : Code → S → Option (Exit × S)} (hE : Named P nf) (hs : Sound P ih)
include hE hs
theorem aimX_ok {es : List Nat} {mem : List Bool → Mem} {k : Nat} {b : List Bool} {om : Option Mem} (hl : b.length = es.length) (h : aimX es mem k b om = true) : mem (setB es k b) = om.getD (mem b) := by
 cases om with
 | none =>
  simp only [aimX] at h
  split at h
  ·rename_i hc
   rw [setB_not hc b hl]; rfl
  ·exact (eqM_ok h).symm
 | some m' => exact (eqM_ok h).symm
end
def keysC : List (Nat × AV) → List Nat → List Nat
 | [], acc => acc
 | (k, _) :: t, acc => match acc.any fun j => Nat.beq j k with
  | true => keysC t acc
  | false => keysC t (k :: acc)
def restr {α : Type} (t : List (Nat × AV)) : List Nat → (List (Nat × AV) → α) → α
 | [], k => k []
 | j :: js, k => fV (lookB t j) fun x => restr t js fun l => k ((j, x) :: l)
theorem restr_eq {α : Type} (t : List (Nat × AV)) : ∀ (js : List Nat) (k : List (Nat × AV) → α), restr t js k = k (js.map fun j => (j, look t j))
 | [], _ => rfl
 | j :: js, k => by simp [restr, fV_eq, restr_eq t js, lookB_eq]
def xLoop (ih : Code → S → Option (Exit × S)) (c : Code) (ks : List Nat) (n : Nat) : S → Option (Exit × S) :=
 Nat.rec (fun _ => none) (fun _ go s => match ih c s with
  | some (.normal, s1) => restr s1.t ks fun t => go ⟨t, s1.m, s1.n, s1.d⟩
  | r => r) n
def stepC (P : Program) (nf : EvP) (n : Nat) (ih : Code → S → Option (Exit × S)) (c : Code) (s : S) : Option (Exit × S) :=
 match c with
 | .skip => some (.normal, s)
 | .exit id => some (.exit id, s)
 | .ret => some (.ret, s)
 | .seq a b => (match ih a s with
  | some (.normal, s1) => ih b s1
  | r => r)
 | .block id c => (match ih c s with
  | some (.exit id', s1) => (match Nat.beq id' id with
   | true => some (.normal, s1)
   | false => some (.exit id', s1))
  | r => r)
 | .cond c a b => (match evoC s.t c with
  | .val (.bool true) => ih a s
  | .val (.bool false) => ih b s
  | _ => none)
 | .loop c => restr s.t (keysC s.t []) fun t => xLoop ih c (keysC s.t []) n ⟨t, s.m, s.n, s.d⟩
 | .region _ ops false =>
  (match (ops.toList.map (·.dst)).all (dstB s.n) with
  | true => (match xL P nf ih (ops.toList.map (·.dst)) ops.toList s with
   | some s1 => some (.normal, s1)
   | none => none)
  | false => none)
 | .region _ ops true =>
  (match (ops.toList.map (·.dst)).all (dstB s.n), drawB (ops.toList.map (·.dst)) ops.toList (calmN ops.toList) with
  | true, false => (match xM P nf ih ops.toList s with
   | some s1 => some (.normal, s1)
   | none => none)
  | true, true => (match xN P nf ih (ops.toList.map (·.dst)) (ops.toList.take (calmN ops.toList)) s with
   | some s1 => (match xL P nf ih (ops.toList.map (·.dst)) (ops.toList.drop (calmN ops.toList)) s1 with
    | some s2 => some (.normal, s2)
    | none => none)
   | none => (match xM P nf ih ops.toList s with
    | some s1 => some (.normal, s1)
    | none => none))
  | _, _ => none)
 | _ => none
def xC (P : Program) (nf : EvP) (n : Nat) : Code → S → Option (Exit × S) := Nat.rec (fun _ _ => none) (fun n ih => stepC P nf n ih) n
end Go.Vg.Ek
set_option maxHeartbeats 16000000
namespace Go.Proofs.Tryz
open Go.Vg
theorem namedEv : Named Tryz.prog 201 := namedB_ok (by kernel_rfl)
theorem xFw_pure {f : FuncId} {args : List AV} {y : AV} (h : (match xF Tryz.prog 201 (xC Tryz.prog 201 100000) f args [] with
  | some (x, m) => Ek.vwB m 20 x y
  | none => false) = true) : Pure Tryz.prog f args y := by
 split at h
 ·rename_i x m hx
  refine Spec.frz ((xF_spec namedEv mixed hx).mono fun x' m' h' => ?_)
  obtain ⟨rfl, rfl⟩ := h'
  exact Ek.vwB_ok _ _ _ h
 ·cases h
def exR : Rm := ⟨[⟨#[104, 97, 108, 108]⟩, ⟨#[118, 97, 117, 108, 116]⟩], [⟨⟨#[98, 111, 120]⟩, 0, 2, 0⟩, ⟨⟨#[100, 111, 111, 114]⟩, 0, 2, 0⟩], [⟨⟨#[107, 101, 121]⟩, 0, [⟨0, 1, false⟩]⟩], [⟨0, 1, [⟨1, 1, false⟩]⟩], [⟨⟨#[111, 112, 101, 110]⟩, 0, 0, [], [], [⟨0, 1⟩], [], []⟩, ⟨⟨#[116, 117, 114, 110]⟩, 0, -1, [0], [], [⟨1, 1⟩], [0], []⟩], [], 1, []⟩
def exS : St := ⟨[1, 1], [-1], [0]⟩
theorem example_pure : Pure Tryz.prog 45 [] (rmA exR) := xFw_pure (by kernel_rfl)
end Go.Proofs.Tryz
set_option maxHeartbeats 16000000
namespace Go.Proofs.Tryz
open Go.Vg
theorem exBeg : begE exR exS = 0 := by kernel_rfl
theorem exLe : ∃ t, (leT exR exS).1 = 0 ∧ (leT exR exS).2 = [⟨2, 1, 0⟩, ⟨3, 0, 0⟩, t] := by
 refine ⟨((leT exR exS).2.getD 2 tk0), by kernel_rfl, by kernel_rfl⟩
theorem exSz : Sz exR := farB_Sz (by kernel_rfl)
theorem exZs : Zs exS := ⟨by simp [exS], by simp [exS], by simp [exS]⟩
theorem works_pure : Pure Tryz.prog 15 [] (.bool true) := by
 have h1 := example_pure
 have h2 := least_ok exSz exZs exBeg
 obtain ⟨t, e1, e2⟩ := exLe
 rw [e1, e2] at h2
 unfold stA exS at h2
 simp only at h2
 unfold rmA rmC at h1 h2
 simp only [List.map_cons, List.map_nil, tkA] at h2
 (refine Spec.bd 0 Tryz.func15 Tryz.results15 Tryz.ntmps15 ?_; simp only [entry, zipArgs, Nat.reduceAdd])
 (refine w_go ?_)
 (apply Run.pureFP; (exact w_ev); (exact (Enters.of Tryz.func45 rfl rfl)); (exact h1); (exact w_al); (try dsimp only [putA, optG]))
 (refine w_go ?_)
 (apply Run.pureFP; (exact w_ev); (exact (Enters.of Tryz.func16 rfl rfl)); (exact h2); (exact w_al); (try dsimp only [putA, optG]))
 (refine w_gg ?_)
 (first | exact w_ret | refine w_retZ ?_)
end Go.Proofs.Tryz
set_option maxHeartbeats 16000000
namespace Go.Proofs.Tryz
open Go.Vg
theorem Spec.pre {P : Program} {C : Prop} {f : FuncId} {args : List AV} {m : Mem} {Q : AV → Mem → Prop} (hC : ∀ X w ρ vs, Rvals X w ρ args vs → C) (h : C → Go.Vg.Spec P f args m Q) : Go.Vg.Spec P f args m Q := fun X w ρ vs hi hr => h (hC X w ρ vs hr) X w ρ vs hi hr
theorem ints_len {X : Nat → Prop} {w : World} {ρ : Rho} {l : List Int} {v : Value} (h : R X w ρ (.ints l) v) : l.length ≤ 9223372036854775807 := by
 obtain ⟨A, c, _, h1, h2, _⟩ := h
 rw [List.length_map] at h1
 unfold maxLen at h2
 omega
structure Ln (s : St) : Prop where
 ts : s.ts.length ≤ 9223372036854775807
 pp : s.pp.length ≤ 9223372036854775807
 pl : s.pl.length ≤ 9223372036854775807
theorem st_len {X : Nat → Prop} {w : World} {ρ : Rho} {s : St} {v : Value} (h : R X w ρ (stA s) v) : Ln s := by
 obtain ⟨vs, _, v1, _, _, h1, v2, _, _, h2, v3, _, _, h3, _⟩ := h
 exact ⟨ints_len h1, ints_len h2, ints_len h3⟩
def awB (s : St) : Bool := decide (30 < (s.ts.length : Int)) || decide (30 < (s.pp.length : Int)) || decide (30 < (s.pl.length : Int))
theorem awB_Zs {s : St} (h : awB s = false) : Zs s := by
 unfold awB at h
 simp only [Bool.or_eq_false_iff, decide_eq_false_iff_not] at h
 exact ⟨by omega, by omega, by omega⟩
theorem Away_pure {s : St} (h : Ln s) : Pure Tryz.prog 14 [stA s] (.bool (awB s)) := away_pure s h.ts h.pp h.pl
end Go.Proofs.Tryz
set_option maxHeartbeats 16000000
namespace Go.Proofs.Tryz
open Go.Vg
end Go.Proofs.Tryz
set_option maxHeartbeats 16000000
namespace Go.Proofs.Tryz
open Go.Vg
end Go.Proofs.Tryz
namespace Go.Proofs
open Go.Shelf
open Go.RowKit Go.Lib Go.Sort
def Tryz.lays189_ren : Go.Shelf.Ren := ⟨fun | 189 => 74 | 125 => 99 | 257 => 98 | 128 => 128 | 129 => 129 | 294 => 119 | 295 => 120 | 296 => 121 | 297 => 122 | 298 => 123 | 299 => 124 | 216 => 125 | 300 => 126 | 301 => 127 | 328 => 154 | 329 => 155 | 330 => 156 | 331 => 157 | 332 => 158 | 215 => 159 | 343 => 179 | n => n, fun | 28 => 32 | 3 => 3 | 46 => 145 | 0 => 0 | 51 => 173 | 53 => 175 | 4 => 4 | 183 => 166 | 182 => 165 | 131 => 94 | 5 => 5 | 9 => 9 | 218 => 196 | 222 => 200 | 228 => 221 | 229 => 222 | n => n, fun | n => n⟩
theorem Tryz.lays189 : Go.Proofs.Lays.n189 Tryz.prog Tryz.lays189_ren := {
 mixed := by kernel_rfl
 f125 := Tryz.func99.trans (congrArg some (by kernel_rfl))
 f128 := Tryz.func128.trans (congrArg some (by kernel_rfl))
 f129 := Tryz.func129.trans (congrArg some (by kernel_rfl))
 f189 := Tryz.func74.trans (congrArg some (by kernel_rfl))
 f215 := Tryz.func159.trans (congrArg some (by kernel_rfl))
 f216 := Tryz.func125.trans (congrArg some (by kernel_rfl))
 f257 := Tryz.func98.trans (congrArg some (by kernel_rfl))
 f294 := Tryz.func119.trans (congrArg some (by kernel_rfl))
 f295 := Tryz.func120.trans (congrArg some (by kernel_rfl))
 f296 := Tryz.func121.trans (congrArg some (by kernel_rfl))
 f297 := Tryz.func122.trans (congrArg some (by kernel_rfl))
 f298 := Tryz.func123.trans (congrArg some (by kernel_rfl))
 f299 := Tryz.func124.trans (congrArg some (by kernel_rfl))
 f300 := Tryz.func126.trans (congrArg some (by kernel_rfl))
 f301 := Tryz.func127.trans (congrArg some (by kernel_rfl))
 f328 := Tryz.func154.trans (congrArg some (by kernel_rfl))
 f329 := Tryz.func155.trans (congrArg some (by kernel_rfl))
 f330 := Tryz.func156.trans (congrArg some (by kernel_rfl))
 f331 := Tryz.func157.trans (congrArg some (by kernel_rfl))
 f332 := Tryz.func158.trans (congrArg some (by kernel_rfl))
 f343 := Tryz.func179.trans (congrArg some (by kernel_rfl))
 t0 := Tryz.underlying0
 a0 := Tryz.isAgg0
 z0 := Tryz.sizeOf0
 v0 := Tryz.zeroValue0
 t3 := Tryz.underlying3
 a3 := Tryz.isAgg3
 z3 := Tryz.sizeOf3
 v3 := Tryz.zeroValue3
 t4 := Tryz.underlying4
 a4 := Tryz.isAgg4
 z4 := Tryz.sizeOf4
 v4 := Tryz.zeroValue4
 t5 := Tryz.underlying5
 a5 := Tryz.isAgg5
 z5 := Tryz.sizeOf5
 v5 := Tryz.zeroValue5
 t9 := Tryz.underlying9
 a9 := Tryz.isAgg9
 z9 := Tryz.sizeOf9
 v9 := Tryz.zeroValue9
 t28 := Tryz.underlying32
 a28 := Tryz.isAgg32
 z28 := Tryz.sizeOf32
 v28 := Tryz.zeroValue32
 t46 := Tryz.underlying145
 a46 := Tryz.isAgg145
 z46 := Tryz.sizeOf145
 v46 := Tryz.zeroValue145
 t51 := Tryz.underlying173
 a51 := Tryz.isAgg173
 z51 := Tryz.sizeOf173
 v51 := Tryz.zeroValue173
 t53 := Tryz.underlying175
 a53 := Tryz.isAgg175
 z53 := Tryz.sizeOf175
 v53 := Tryz.zeroValue175
 t131 := Tryz.underlying94
 a131 := Tryz.isAgg94
 z131 := Tryz.sizeOf94
 v131 := Tryz.zeroValue94
 t182 := Tryz.underlying165
 a182 := Tryz.isAgg165
 z182 := Tryz.sizeOf165
 v182 := Tryz.zeroValue165
 t183 := Tryz.underlying166
 a183 := Tryz.isAgg166
 z183 := Tryz.sizeOf166
 v183 := Tryz.zeroValue166
 t218 := Tryz.underlying196
 a218 := Tryz.isAgg196
 z218 := Tryz.sizeOf196
 v218 := Tryz.zeroValue196
 t222 := Tryz.underlying200
 a222 := Tryz.isAgg200
 z222 := Tryz.sizeOf200
 v222 := Tryz.zeroValue200
 t228 := Tryz.underlying221
 a228 := Tryz.isAgg221
 z228 := Tryz.sizeOf221
 v228 := Tryz.zeroValue221
 t229 := Tryz.underlying222
 a229 := Tryz.isAgg222
 z229 := Tryz.sizeOf222
 v229 := Tryz.zeroValue222 }
theorem Tryz.slices_Sort_int (blk off cap : Nat) (zs : List Int) (w : World) (hH : Holds (Value.int .i64) w blk off zs.toArray) (hblk : blk < w.heap.size) (hsz : zs.length < 4611686018427387904) :
  Calls Tryz.prog 74 #[.slice (some ⟨blk, off, none⟩) zs.length cap] w fun e w' =>
   e = .returned (.tuple #[]) ∧ ∃ n os, w' = grow (putRow (Value.int .i64) (Sort.ahead w n) blk off (zs.mergeSort fun x y => decide (x ≤ y)).toArray) os := Any.slices_Sort_int Tryz.lays189 blk off cap zs w hH hblk hsz
def Tryz.laysNm220_ren : Go.Shelf.Ren := ⟨fun | 20 => 75 | n => n, fun | 22 => 32 | 3 => 3 | 4 => 4 | 0 => 0 | n => n, fun | n => n⟩
theorem Tryz.laysNm220 : Go.Proofs.Lays2.n20 Tryz.prog Tryz.laysNm220_ren := {
 mixed := by kernel_rfl
 f20 := Tryz.func75.trans (congrArg some (by kernel_rfl))
 t0 := Tryz.underlying0
 a0 := Tryz.isAgg0
 z0 := Tryz.sizeOf0
 v0 := Tryz.zeroValue0
 t3 := Tryz.underlying3
 a3 := Tryz.isAgg3
 z3 := Tryz.sizeOf3
 v3 := Tryz.zeroValue3
 t4 := Tryz.underlying4
 a4 := Tryz.isAgg4
 z4 := Tryz.sizeOf4
 v4 := Tryz.zeroValue4
 t22 := Tryz.underlying32
 a22 := Tryz.isAgg32
 z22 := Tryz.sizeOf32
 v22 := Tryz.zeroValue32
 i3 := by kernel_rfl }
theorem Tryz.slices_Compact_int (blk off cap : Nat) (zs : List Int) (w : World) (hH : Holds (Value.int .i64) w blk off zs.toArray) (hsz : zs.length ≤ 9223372036854775807) (hcap : zs.length ≤ cap) :
  Calls Tryz.prog 75 #[.slice (some ⟨blk, off, none⟩) zs.length cap] w fun e w' => e = .returned (.slice (some ⟨blk, off, none⟩) (Lib.compact zs).length cap) ∧ ∃ q, w' = putRow (Value.int .i64) (Sort.ahead w q) blk off (Lib.compact zs ++ List.replicate (zs.length - (Lib.compact zs).length) 0).toArray := Any.slices_Compact_int Tryz.laysNm220 blk off cap zs w hH hsz hcap
theorem Tryz.slices_Compact_int_empty (a : Option Addr) (cap : Nat) (w : World) :
  Calls Tryz.prog 75 #[.slice a 0 cap] w fun e w' => e = .returned (.slice a 0 cap) ∧ w' = w := Any.slices_Compact_int_empty Tryz.laysNm220 a cap w
def Tryz.laysNm223_ren : Go.Shelf.Ren := ⟨fun | 23 => 78 | n => n, fun | 22 => 32 | 3 => 3 | 4 => 4 | 0 => 0 | n => n, fun | n => n⟩
theorem Tryz.laysNm223 : Go.Proofs.Lays2.n23 Tryz.prog Tryz.laysNm223_ren := {
 mixed := by kernel_rfl
 f23 := Tryz.func78.trans (congrArg some (by kernel_rfl))
 t0 := Tryz.underlying0
 a0 := Tryz.isAgg0
 z0 := Tryz.sizeOf0
 v0 := Tryz.zeroValue0
 t3 := Tryz.underlying3
 a3 := Tryz.isAgg3
 z3 := Tryz.sizeOf3
 v3 := Tryz.zeroValue3
 t4 := Tryz.underlying4
 a4 := Tryz.isAgg4
 z4 := Tryz.sizeOf4
 v4 := Tryz.zeroValue4
 t22 := Tryz.underlying32
 a22 := Tryz.isAgg32
 z22 := Tryz.sizeOf32
 v22 := Tryz.zeroValue32
 i3 := by kernel_rfl }
theorem Tryz.slices_Delete_int (blk off cap i j : Nat) (zs : List Int) (w : World) (hH : Holds (Value.int .i64) w blk off zs.toArray) (hcap : zs.length ≤ cap) (hm : cap ≤ 9223372036854775807) (hij : i ≤ j) (hj : j ≤ zs.length) :
  Calls Tryz.prog 78 #[.slice (some ⟨blk, off, none⟩) zs.length cap, .int .i64 i, .int .i64 j] w fun e w' => e = .returned (.slice (some ⟨blk, off, none⟩) (zs.length - (j - i)) cap) ∧ ∃ q, w' = putRow (Value.int .i64) (Sort.ahead w q) blk off (zs.take i ++ zs.drop j ++ List.replicate (j - i) 0).toArray := Any.slices_Delete_int Tryz.laysNm223 blk off cap i j zs w hH hcap hm hij hj
theorem Tryz.slices_Sort_int_none (p : Option Addr) (cap : Nat) (w : World) :
  Calls Tryz.prog 74 #[.slice p 0 cap] w fun e w' => e = .returned (.tuple #[]) ∧ w' = w := Any.slices_Sort_int_none Tryz.lays189 p cap w
end Go.Proofs
set_option maxHeartbeats 4000000
namespace Go.Proofs.Tryz
open Go.Vg Go.RowKit Go.Sort
theorem Inv_more {X : Nat → Prop} {w w' : World} {ρ : Rho} {m : Mem} (hi : Inv X w ρ m) (hb : ∀ b, b < w.heap.size → w'.heap[b]? = w.heap[b]?) (hs : w.heap.size ≤ w'.heap.size) (h1 : w'.os = w.os) (h2 : w'.tape = w.tape) (h3 : w'.output = w.output) : Inv X w' ρ m ∧ Tr w ρ w' ρ := by
 have ht : Tr w ρ w' ρ := ⟨h1, h2, h3, hs, fun _ r h => ⟨r, h, Nat.le_refl _, fun _ => rfl⟩, fun b hb' hlt => ⟨hb', hb b hlt⟩⟩
 refine ⟨⟨hi.len, fun i r e hr he => ?_, hi.apart, fun i r b hr hb' => ⟨Nat.lt_of_lt_of_le (hi.new i r b hr hb').1 hs, (hi.new i r b hr hb').2⟩, fun b hx => Nat.lt_of_lt_of_le (hi.out b hx) hs, hi.gd.tr ht⟩, ht⟩
 obtain ⟨q1, q2⟩ := hi.at_ i r e hr he
 exact ⟨q1, q2.mono ht.kp fun b hb' => hb b (hi.new i r b hr hb').1⟩
theorem rowTurn {X : Nat → Prop} {w : World} {ρ : Rho} {m : Mem} {id ver b : Nat} {l L : List Int} {r : RE} (hi : Inv X w ρ m) (hm : m[id]? = some ⟨ver, .row 1 (l.map AV.int)⟩) (hr : ρ[id]? = some r) (hb : r.blk = some b) (hL : L.length = l.length) :
  b < w.heap.size ∧ Holds (Value.int .i64) w b (r.base + 0 * r.sz) l.toArray ∧ ∀ nd os, Inv X (Sort.grow (putRow (Value.int .i64) (Sort.ahead w nd) b (r.base + 0 * r.sz) L.toArray) os) ρ (m.set id ⟨ver, .row 1 (L.map AV.int)⟩) ∧ Tr w ρ (Sort.grow (putRow (Value.int .i64) (Sort.ahead w nd) b (r.base + 0 * r.sz) L.toArray) os) ρ := by
 obtain ⟨r', hr', hver, hsz, hnone, hblk⟩ := hi.row hm
 rw [hr] at hr'; cases hr'
 obtain ⟨⟨arr, e0, fr, ha1, ha2, ha3, ha4⟩, hfitl, hrow⟩ := hblk b hb
 have hrowat : RowAt w b arr := ⟨e0, fr, ha1, ha3, ha4⟩
 rw [List.length_map] at hfitl
 rw [Nat.mul_one] at hfitl
 have hcell : ∀ j (hj : j < l.length), w.cell? ⟨b, r.base + j, none⟩ = some (.int .i64 l[j]) := by
  intro j hj
  obtain ⟨_, u, q1, _, q3⟩ := hrow.nth (i := j) (x := AV.int l[j]) (by simp [hj])
  have q3 : u = .int .i64 l[j] := q3
  rw [q3, Nat.mul_one] at q1
  exact q1
 have hH : Holds (Value.int .i64) w b (r.base + 0 * r.sz) l.toArray := by
  intro j hj
  have hj : j < l.length := by simpa using hj
  rw [Nat.zero_mul, Nat.add_zero]
  refine ⟨?_, hrowat.frozen (by omega)⟩
  rw [hcell j hj]
  simp [hj]
 have hblt : b < w.heap.size := (Array.getElem?_eq_some_iff.1 ha1).1
 refine ⟨hblt, hH, fun nd os => ?_⟩
 rw [Nat.zero_mul, Nat.add_zero]
 have hput : (putRow (Value.int .i64) (Sort.ahead w nd) b r.base L.toArray).heap[b]? = some (.cells (putCells (Value.int .i64) r.base L.toArray arr) e0 fr) := by
  show (w.heap.modify b _)[b]? = _
  rw [Array.getElem?_modify, if_pos rfl, ha1]; rfl
 have hoth : ∀ k, k ≠ b → (putRow (Value.int .i64) (Sort.ahead w nd) b r.base L.toArray).heap[k]? = w.heap[k]? := by
  intro k hk
  show (w.heap.modify b _)[k]? = _
  rw [Array.getElem?_modify, if_neg (Ne.symm hk)]
 have hszp : (putRow (Value.int .i64) (Sort.ahead w nd) b r.base L.toArray).heap.size = w.heap.size := Array.size_modify
 have hturn : Turns w b (putRow (Value.int .i64) (Sort.ahead w nd) b r.base L.toArray) := ⟨rfl, rfl, rfl, hszp, hoth⟩
 have hsc : (putCells (Value.int .i64) r.base L.toArray arr).size = arr.size := by simp [putCells]
 have hra : RowAt (putRow (Value.int .i64) (Sort.ahead w nd) b r.base L.toArray) b (putCells (Value.int .i64) r.base L.toArray arr) := ⟨e0, fr, hput, ha3, by rw [hsc]; exact ha4⟩
 have hinv := hi.write hr hb hver hturn (l' := L.map AV.int) hsz hra (by rw [hsc]; exact ha2) (by rw [List.length_map, Nat.mul_one]; omega) (by
  refine Rrow_of_cells fun i x hx => ?_
  have hil : i < L.length := by
   have := (List.getElem?_eq_some_iff.1 hx).1
   simpa using this
  have hxe : x = AV.int L[i] := by simpa [hil] using hx.symm
  subst hxe
  refine ⟨rfl, .int .i64 L[i], ?_, rfl, rfl⟩
  rw [Nat.mul_one, hra.cell]
  have hai : r.base + i < arr.size := by omega
  simp only [putCells, Array.getElem?_mapIdx]
  rw [Array.getElem?_eq_getElem hai]
  simp [hil])
 have htr := Tr.turn hr hb hturn
 obtain ⟨g1, g2⟩ := Inv_more (w' := Sort.grow (putRow (Value.int .i64) (Sort.ahead w nd) b r.base L.toArray) os) hinv (fun k hk => by
  show (_ ++ os)[k]? = _
  rw [Array.getElem?_append_left hk]) (by show _ ≤ (_ ++ os).size; rw [Array.size_append]; omega) rfl rfl rfl
 exact ⟨g1, htr.trans g2⟩
theorem set_samI {m : Mem} {id : Nat} {e : Ent} (h : m[id]? = some e) : m.set id e = m := by
 have hidl : id < m.length := (List.getElem?_eq_some_iff.1 h).1
 apply List.ext_getElem?
 intro k
 by_cases hk : k = id
 ·subst hk; rw [List.getElem?_set_self hidl, h]
 ·rw [List.getElem?_set_ne (Ne.symm hk)]
def srtI (l : List Int) : List Int := l.mergeSort fun x y => decide (x ≤ y)
theorem srtI_len (l : List Int) : (srtI l).length = l.length := List.length_mergeSort l
theorem sort_spec {m : Mem} {id ver : Nat} {l : List Int} (hm : m[id]? = some ⟨ver, .row 1 (l.map AV.int)⟩) (hlen : l.length ≤ 1000) :
  Go.Vg.Spec Tryz.prog 74 [.osl id ver 0 l.length] m (fun x m' => x = .any ∧ m' = m.set id ⟨ver, .row 1 ((srtI l).map AV.int)⟩) := by
 rintro X w ρ _ hi ⟨v, _, rfl, ⟨A, c, r, rfl, hr, hle, hat⟩, rfl⟩
 obtain ⟨r', hr', hver, _⟩ := hi.row hm
 rw [hr] at hr'; cases hr'
 obtain ⟨h1, h2, h3⟩ := hat hver.symm
 by_cases h0 : l.length = 0
 ·have hl : l = [] := List.eq_nil_of_length_eq_zero h0
  subst hl
  refine (Go.Proofs.Tryz.slices_Sort_int_none A c w).mono ?_
  rintro e w' ⟨rfl, rfl⟩
  refine ⟨_, .any, _, ρ, rfl, ⟨rfl, rfl⟩, trivial, ?_, Tr.refl _ _⟩
  rw [show srtI [] = [] from by simp [srtI], set_samI hm]; exact hi
 ·obtain ⟨b, hb, rfl, hfit⟩ := h3 (by omega)
  obtain ⟨g1, g2, g3⟩ := rowTurn (L := srtI l) hi hm hr hb (srtI_len l)
  refine (Go.Proofs.Tryz.slices_Sort_int b (r.base + 0 * r.sz) c l w g2 g1 (by omega)).mono ?_
  rintro e w' ⟨rfl, nd, os, rfl⟩
  obtain ⟨k1, k2⟩ := g3 nd os
  exact ⟨_, .any, _, ρ, rfl, ⟨rfl, rfl⟩, trivial, k1, k2⟩
def cmpI (l : List Int) : List Int := Lib.compact l
theorem cmpI_len (l : List Int) : (cmpI l).length ≤ l.length := by
 unfold cmpI Lib.compact Lib.compactUpTo
 rw [List.length_map]
 exact Nat.le_trans (List.length_filter_le _ _) (by simp)
theorem grow0 (w : World) : Sort.grow w #[] = w := by
 unfold Sort.grow
 simp
theorem compact_spec {m : Mem} {id ver : Nat} {l : List Int} (hm : m[id]? = some ⟨ver, .row 1 (l.map AV.int)⟩) (hlen : l.length ≤ 1000) :
  Go.Vg.Spec Tryz.prog 75 [.osl id ver 0 l.length] m (fun x m' => x = .osl id ver 0 (cmpI l).length ∧ m' = m.set id ⟨ver, .row 1 ((cmpI l ++ List.replicate (l.length - (cmpI l).length) 0).map AV.int)⟩) := by
 rintro X w ρ _ hi ⟨v, _, rfl, ⟨A, c, r, rfl, hr, hle, hat⟩, rfl⟩
 obtain ⟨r', hr', hver, _⟩ := hi.row hm
 rw [hr] at hr'; cases hr'
 obtain ⟨h1, h2, h3⟩ := hat hver.symm
 have hcl := cmpI_len l
 by_cases h0 : l.length = 0
 ·have hl : l = [] := List.eq_nil_of_length_eq_zero h0
  subst hl
  refine (Go.Proofs.Tryz.slices_Compact_int_empty A c w).mono ?_
  rintro e w' ⟨rfl, rfl⟩
  have hc0 : cmpI [] = [] := List.eq_nil_of_length_eq_zero (by simpa using hcl)
  refine ⟨_, .osl id ver 0 (cmpI []).length, _, ρ, rfl, ⟨rfl, rfl⟩, ⟨A, c, r, by rw [hc0]; rfl, hr, hle, fun e => ⟨by rw [hc0]; simp, h2, h3⟩⟩, ?_, Tr.refl _ _⟩
  rw [hc0]
  rw [show ([] ++ List.replicate (([] : List Int).length - ([] : List Int).length) (0 : Int)) = [] from rfl, set_samI hm]; exact hi
 ·obtain ⟨b, hb, rfl, hfit⟩ := h3 (by omega)
  obtain ⟨g1, g2, g3⟩ := rowTurn (L := cmpI l ++ List.replicate (l.length - (cmpI l).length) 0) hi hm hr hb (by simp; omega)
  refine (Go.Proofs.Tryz.slices_Compact_int b (r.base + 0 * r.sz) c l w g2 (by omega) h1).mono ?_
  rintro e w' ⟨rfl, nd, rfl⟩
  obtain ⟨k1, k2⟩ := g3 nd #[]
  rw [grow0] at k1 k2
  exact ⟨_, .osl id ver 0 (cmpI l).length, _, ρ, rfl, ⟨rfl, rfl⟩, ⟨_, c, r, rfl, hr, hle, fun e => ⟨by omega, h2, h3⟩⟩, k1, k2⟩
theorem delete_spec {m : Mem} {id ver : Nat} {l : List Int} (hm : m[id]? = some ⟨ver, .row 1 (l.map AV.int)⟩) (n i : Nat) (hn : n ≤ l.length) (hi0 : i < n) (hlen : l.length ≤ 1000) (hnl : n = l.length) :
  Go.Vg.Spec Tryz.prog 78 [.osl id ver 0 n, .int i, .int (i + 1)] m (fun x m' => x = .osl id ver 0 (n - 1) ∧ m' = m.set id ⟨ver, .row 1 ((l.take i ++ l.drop (i + 1) ++ [0]).map AV.int)⟩) := by
 subst hnl
 rintro X w ρ _ hi ⟨v, _, rfl, ⟨A, c, r, rfl, hr, hle, hat⟩, v1, _, rfl, h5, v2, _, rfl, h6, rfl⟩
 obtain ⟨r', hr', hver, _⟩ := hi.row hm
 rw [hr] at hr'; cases hr'
 obtain ⟨h1, h2, h3⟩ := hat hver.symm
 obtain rfl : v1 = .int .i64 i := h5
 obtain rfl : v2 = .int .i64 ((i : Int) + 1) := h6
 obtain ⟨b, hb, rfl, hfit⟩ := h3 (by omega)
 obtain ⟨g1, g2, g3⟩ := rowTurn (L := l.take i ++ l.drop (i + 1) ++ [0]) hi hm hr hb (by simp; omega)
 have hcall := Go.Proofs.Tryz.slices_Delete_int b (r.base + 0 * r.sz) c i (i + 1) l w g2 h1 (by unfold maxLen at h2; omega) (by omega) (by omega)
 rw [show ((i + 1 : Nat) : Int) = (i : Int) + 1 by omega, show i + 1 - i = 1 by omega] at hcall
 refine hcall.mono ?_
 rintro e w' ⟨rfl, nd, rfl⟩
 obtain ⟨k1, k2⟩ := g3 nd #[]
 rw [grow0] at k1 k2
 exact ⟨_, .osl id ver 0 (l.length - 1), _, ρ, rfl, ⟨rfl, rfl⟩, ⟨_, c, r, rfl, hr, hle, fun e => ⟨by omega, h2, h3⟩⟩, k1, k2⟩
end Go.Proofs.Tryz
set_option maxHeartbeats 4000000
namespace Go.Proofs.Tryz
open Go.Vg
theorem srtI_asc (l : List Int) : (srtI l).Pairwise (· ≤ ·) := by
 have h := List.pairwise_mergeSort (le := fun x y : Int => decide (x ≤ y)) (fun a b c h1 h2 => by simp at *; omega) (fun a b => by simp; omega) l
 exact h.imp fun h => by simpa using h
theorem srtI_mem (l : List Int) (x : Int) : x ∈ srtI l ↔ x ∈ l := List.mem_mergeSort
theorem cmp_get {l : List Int} (j : Nat) (hj : j < l.length) : l.toArray[j]! = l[j] := by simp [hj]
theorem cmpI_mem (l : List Int) (x : Int) : x ∈ cmpI l ↔ x ∈ l := by
 unfold cmpI Lib.compact Lib.compactUpTo
 rw [List.mem_map]
 constructor
 ·rintro ⟨j, hj, rfl⟩
  have hj := List.mem_range.1 (List.mem_filter.1 hj).1
  rw [cmp_get j hj]; exact List.getElem_mem hj
 ·intro hx
  obtain ⟨j, hj, rfl⟩ := List.getElem_of_mem hx
  have : ∀ n j (hj : j < l.length), j ≤ n → ∃ i, i ∈ (List.range l.length).filter (Lib.keeps l.toArray) ∧ l.toArray[i]! = l[j] := by
   intro n
   induction n with
   | zero =>
    intro j hj h0
    have : j = 0 := by omega
    subst this
    exact ⟨0, List.mem_filter.2 ⟨List.mem_range.2 hj, by simp [Lib.keeps]⟩, cmp_get 0 hj⟩
   | succ n ih =>
    intro j hj hn
    cases hk : Lib.keeps l.toArray j with
    | true => exact ⟨j, List.mem_filter.2 ⟨List.mem_range.2 hj, hk⟩, cmp_get j hj⟩
    | false =>
     unfold Lib.keeps at hk
     simp only [decide_eq_false_iff_not, not_or, Decidable.not_not, ne_eq] at hk
     obtain ⟨i, i1, i2⟩ := ih (j - 1) (by omega) (by omega)
     refine ⟨i, i1, ?_⟩
     rw [i2, ← cmp_get (j - 1) (by omega), ← hk.2, cmp_get j hj]
  exact this j j hj (Nat.le_refl _)
theorem cmpI_asc {l : List Int} (h : l.Pairwise (· ≤ ·)) : (cmpI l).Pairwise (· < ·) := by
 unfold cmpI Lib.compact Lib.compactUpTo
 rw [List.pairwise_map]
 have h1 : ((List.range l.length).filter (Lib.keeps l.toArray)).Pairwise (fun a b => a < b ∧ b < l.length ∧ Lib.keeps l.toArray b = true) := by
  have h2 : ((List.range l.length).filter (Lib.keeps l.toArray)).Pairwise (· < ·) := List.Pairwise.filter _ List.pairwise_lt_range
  refine h2.imp_of_mem fun {a b} ha hb hab => ⟨hab, List.mem_range.1 (List.mem_filter.1 hb).1, (List.mem_filter.1 hb).2⟩
 refine h1.imp fun {a b} ⟨k1, k2, k3⟩ => ?_
 unfold Lib.keeps at k3
 simp only [decide_eq_true_eq] at k3
 have k4 : l.toArray[b]! ≠ l.toArray[b - 1]! := by
  rcases k3 with k3 | k3
  ·omega
  ·exact k3
 rw [cmp_get b k2, cmp_get (b - 1) (by omega)] at k4
 rw [cmp_get b k2, cmp_get a (by omega)]
 have hp := List.pairwise_iff_getElem.1 h
 have e1 := hp (b - 1) b (by omega) k2 (by omega)
 rcases Nat.lt_or_ge a (b - 1) with q | q
 ·have e2 := hp a (b - 1) (by omega) (by omega) q
  omega
 ·have : a = b - 1 := by omega
  subst this
  omega
end Go.Proofs.Tryz
set_option maxHeartbeats 4000000
namespace Go.Proofs.Tryz
open Go.Vg
def aN (W : List Wy) (i : Nat) : Nat := (W.getD i wy0).a.toNat
def bN (W : List Wy) (i : Nat) : Nat := (W.getD i wy0).b.toNat
def adW (W : List Wy) (u v : Nat) : Prop := ∃ i, i < W.length ∧ ((aN W i = u ∧ bN W i = v) ∨ (bN W i = u ∧ aN W i = v))
theorem adW_symm {W : List Wy} {u v : Nat} (h : adW W u v) : adW W v u := by
 obtain ⟨i, hi, h | h⟩ := h
 ·exact ⟨i, hi, .inr ⟨h.2, h.1⟩⟩
 ·exact ⟨i, hi, .inl ⟨h.2, h.1⟩⟩
def ov (o : List Int) (v : Nat) : Int := o.getD v 0
def unv (o : List Int) : Nat := o.countP fun x => decide (x < 0)
theorem ov_set {o : List Int} {y : Nat} (z : Int) (hy : y < o.length) (v : Nat) : ov (o.set y z) v = if v = y then z else ov o v := by
 unfold ov
 by_cases h : v = y
 ·subst h; simp [hy]
 ·rw [if_neg h]
  simp only [List.getD_eq_getElem?_getD, List.getElem?_set_ne (Ne.symm h)]
theorem unv_set {o : List Int} {y : Nat} {z : Int} (hy : y < o.length) (h : ov o y < 0) (hz : 0 ≤ z) : unv (o.set y z) + 1 = unv o := by
 unfold unv
 have e : o[y] = ov o y := by unfold ov; simp [hy]
 have hp : 0 < List.countP (fun x : Int => decide (x < 0)) o := List.countP_pos_iff.2 ⟨o[y], List.getElem_mem _, by rw [e]; simpa using h⟩
 rw [List.countP_set hy, e]
 have h1 : decide (ov o y < 0) = true := by simpa using h
 have h2 : decide (z < 0) = false := by simp; omega
 simp only [h1, h2]
 simp
 omega
structure FI (W : List Wy) (N a : Nat) (o : List Int) : Prop where
 len : o.length = N
 an : a < N
 at0 : ov o a = 0
 low : ∀ v, v < N → -1 ≤ ov o v
 zer : ∀ v, v < N → ov o v = 0 → v = a
 pv : ∀ v, v < N → 0 < ov o v → ∃ u, u < N ∧ adW W u v ∧ ov o u = ov o v - 1
 cnt : ∀ v, v < N → ov o v + unv o ≤ N - 1
theorem FI.start {W : List Wy} {N a : Nat} (ha : a < N) : FI W N a ((List.replicate N (-1 : Int)).set a 0) := by
 have hl : a < (List.replicate N (-1 : Int)).length := by simpa using ha
 have e : ∀ v, v < N → ov (List.replicate N (-1 : Int)) v = -1 := fun v hv => by unfold ov; simp [hv]
 have hu : unv (List.replicate N (-1 : Int)) = N := by unfold unv; rw [List.countP_replicate]; simp
 have hc := unv_set (z := 0) hl (by rw [e a ha]; omega) (by omega)
 have hv : ∀ v, v < N → ov ((List.replicate N (-1 : Int)).set a 0) v = if v = a then 0 else -1 := fun v h => by rw [ov_set 0 hl, e v h]
 refine ⟨by simp, ha, by rw [hv a ha, if_pos rfl], fun v h => ?_, fun v h q => ?_, fun v h q => ?_, fun v h => ?_⟩
 ·rw [hv v h]; split <;> omega
 ·rw [hv v h] at q
  split at q
  ·assumption
  ·omega
 ·rw [hv v h] at q
  split at q <;> omega
 ·rw [hv v h]
  split <;> omega
theorem FI.set {W : List Wy} {N a : Nat} {o : List Int} (h : FI W N a o) {x y : Nat} (hx : x < N) (hy : y < N) (hxy : adW W x y) (h0 : 0 ≤ ov o x) (h1 : ov o y < 0) : FI W N a (o.set y (ov o x + 1)) := by
 have hl : y < o.length := by rw [h.len]; exact hy
 have hs := ov_set (ov o x + 1) hl
 have hc := unv_set hl h1 (z := ov o x + 1) (by omega)
 have hay : a ≠ y := by rintro rfl; have := h.at0; omega
 have hxny : x ≠ y := by rintro rfl; omega
 refine ⟨by rw [List.length_set]; exact h.len, h.an, by rw [hs, if_neg hay]; exact h.at0, fun v hv => ?_, fun v hv q => ?_, fun v hv q => ?_, fun v hv => ?_⟩
 ·rw [hs]; split
  ·omega
  ·exact h.low v hv
 ·rw [hs] at q
  split at q
  ·omega
  ·exact h.zer v hv q
 ·rw [hs v] at q ⊢
  by_cases e : v = y
  ·subst e
   rw [if_pos rfl]
   exact ⟨x, hx, hxy, by rw [hs, if_neg hxny]; omega⟩
  ·rw [if_neg e] at q ⊢
   obtain ⟨u, u1, u2, u3⟩ := h.pv v hv q
   refine ⟨u, u1, u2, ?_⟩
   rw [hs, if_neg]
   ·exact u3
   ·rintro rfl; omega
 ·rw [hs]
  have := h.cnt x hx
  have := h.cnt v hv
  split <;> omega
theorem FI.top {W : List Wy} {N a : Nat} {o : List Int} (h : FI W N a o) {v : Nat} (hv : v < N) : ov o v ≤ N - 1 := by
 have := h.cnt v hv; omega
def dnk (W : List Wy) (o : List Int) (x k : Nat) : Prop := ∀ i, i < k → (aN W i = x → 0 ≤ ov o (bN W i) ∧ ov o (bN W i) ≤ ov o x + 1) ∧ (bN W i = x → 0 ≤ ov o (aN W i) ∧ ov o (aN W i) ≤ ov o x + 1)
theorem dnk_set {W : List Wy} {o : List Int} {x k y : Nat} {z : Int} (h : dnk W o x k) (hy : y < o.length) (h1 : ov o y < 0) (h0 : 0 ≤ ov o x) : dnk W (o.set y z) x k := by
 have hs := ov_set z hy
 have hxy : x ≠ y := by rintro rfl; omega
 intro i hi
 have h2 := h i hi
 refine ⟨fun e => ?_, fun e => ?_⟩
 ·have h3 := h2.1 e
  rw [hs, if_neg (by rintro q; rw [q] at h3; omega), hs, if_neg hxy]; exact h3
 ·have h3 := h2.2 e
  rw [hs, if_neg (by rintro q; rw [q] at h3; omega), hs, if_neg hxy]; exact h3
structure FD (W : List Wy) (N a : Nat) (o : List Int) : Prop where
 fi : FI W N a o
 nx : ∀ u, u < N → 0 ≤ ov o u → dnk W o u W.length
theorem FD.near {W : List Wy} {N a : Nat} {o : List Int} (h : FD W N a o) {u v : Nat} (hu : u < N) (ha : adW W u v) (h0 : 0 ≤ ov o u) : 0 ≤ ov o v ∧ ov o v ≤ ov o u + 1 := by
 obtain ⟨i, hi, ⟨e1, e2⟩ | ⟨e1, e2⟩⟩ := ha
 ·have := (h.nx u hu h0 i hi).1 e1; rw [e2] at this; exact this
 ·have := (h.nx u hu h0 i hi).2 e1; rw [e2] at this; exact this
theorem FD.le {W : List Wy} {N a : Nat} {o p : List Int} (h : FD W N a o) (k : FD W N a p) : ∀ (n : Nat) (v : Nat), v < N → ov o v = n → 0 ≤ ov p v ∧ ov p v ≤ n
 | 0, v, hv, e => by
  have := h.fi.zer v hv e
  subst this
  have := k.fi.at0
  omega
 | n + 1, v, hv, e => by
  obtain ⟨u, u1, u2, u3⟩ := h.fi.pv v hv (by omega)
  have := FD.le h k n u u1 (by omega)
  have := k.near u1 u2 this.1
  omega
theorem FD.eq {W : List Wy} {N a : Nat} {o p : List Int} (h : FD W N a o) (k : FD W N a p) : o = p := by
 refine lists_eq (by rw [h.fi.len, k.fi.len]) fun v hv => ?_
 rw [h.fi.len] at hv
 show ov o v = ov p v
 have l1 := h.fi.low v hv
 have l2 := k.fi.low v hv
 by_cases h1 : 0 ≤ ov o v
 ·have := FD.le h k (ov o v).toNat v hv (by omega)
  have := FD.le k h (ov p v).toNat v hv (by omega)
  omega
 ·by_cases h2 : 0 ≤ ov p v
  ·have := FD.le k h (ov p v).toNat v hv (by omega)
   omega
  ·omega
theorem FD.trans {W : List Wy} {N a b : Nat} {o p : List Int} (h : FD W N a o) (k : FD W N b p) (hb : 0 ≤ ov o b) : ∀ (n : Nat) (v : Nat), v < N → ov p v = n → 0 ≤ ov o v
 | 0, v, hv, e => by
  have := k.fi.zer v hv e
  subst this
  exact hb
 | n + 1, v, hv, e => by
  obtain ⟨u, u1, u2, u3⟩ := k.fi.pv v hv (by omega)
  have := FD.trans h k hb n u u1 (by omega)
  exact (h.near u1 u2 this).1
theorem FD.symm {W : List Wy} {N : Nat} {D : Nat → List Int} (hD : ∀ a, a < N → FD W N a (D a)) {a : Nat} (ha : a < N) : ∀ (n : Nat) (v : Nat), v < N → ov (D a) v = n → 0 ≤ ov (D v) a
 | 0, v, hv, e => by
  have := (hD a ha).fi.zer v hv e
  subst this
  rw [(hD v hv).fi.at0]; omega
 | n + 1, v, hv, e => by
  obtain ⟨u, u1, u2, u3⟩ := (hD a ha).fi.pv v hv (by omega)
  have h1 := FD.symm hD ha n u u1 (by omega)
  have h2 := (hD v hv).near hv (adW_symm u2) (by rw [(hD v hv).fi.at0]; omega)
  exact FD.trans (hD v hv) (hD u u1) h2.1 (ov (D u) a).toNat a ha (by omega)
theorem FD.same {W : List Wy} {N : Nat} {D : Nat → List Int} (hD : ∀ a, a < N → FD W N a (D a)) {a v p : Nat} (ha : a < N) (hv : v < N) (hp : p < N) (h : 0 ≤ ov (D a) v) : 0 ≤ ov (D v) p ↔ 0 ≤ ov (D a) p := by
 constructor
 ·intro h2
  exact FD.trans (hD a ha) (hD v hv) h _ p hp (Int.toNat_of_nonneg h2).symm
 ·intro h2
  have h3 := FD.symm hD ha _ v hv (Int.toNat_of_nonneg h).symm
  exact FD.trans (hD v hv) (hD a ha) h3 _ p hp (Int.toNat_of_nonneg h2).symm
structure FQ (W : List Wy) (N a : Nat) (o : List Int) (q : List Nat) : Prop where
 fi : FI W N a o
 qn : ∀ x ∈ q, x < N ∧ 0 ≤ ov o x
 srt : q.Pairwise fun x y => ov o x ≤ ov o y
 top : ∀ x, q.head? = some x → ∀ v, v < N → ov o v ≤ ov o x + 1
 don : ∀ v, v < N → 0 ≤ ov o v → v ∉ q → dnk W o v W.length
theorem FQ.start {W : List Wy} {N a : Nat} (ha : a < N) : FQ W N a ((List.replicate N (-1 : Int)).set a 0) [a] := by
 have h := FI.start (W := W) ha
 have hl : a < (List.replicate N (-1 : Int)).length := by simpa using ha
 have hv : ∀ v, v < N → ov ((List.replicate N (-1 : Int)).set a 0) v = if v = a then 0 else -1 := fun v h => by rw [ov_set 0 hl]; unfold ov; simp [h]
 refine ⟨h, fun x hx => ?_, by simp, fun x hx v hvN => ?_, fun v hvN h0 hq => ?_⟩
 ·have : x = a := by simpa using hx
  subst this
  exact ⟨ha, by rw [h.at0]; omega⟩
 ·have : a = x := by simpa using hx
  subst this
  rw [h.at0, hv v hvN]
  split <;> omega
 ·rw [hv v hvN] at h0
  split at h0
  ·rename_i e; subst e; simp at hq
  ·omega
theorem FQ.end_ {W : List Wy} {N a : Nat} {o : List Int} (h : FQ W N a o []) : FD W N a o := ⟨h.fi, fun u hu h0 => h.don u hu h0 (by simp)⟩
theorem FQ.pop {W : List Wy} {N a : Nat} {o : List Int} {x : Nat} {q : List Nat} (h : FQ W N a o (x :: q)) (hd : dnk W o x W.length) : FQ W N a o q := by
 refine ⟨h.fi, fun y hy => h.qn y (by simp [hy]), (List.pairwise_cons.1 h.srt).2, fun y hy v hv => ?_, fun v hv h0 hq => ?_⟩
 ·have h1 := h.top x (by simp) v hv
  have h2 := (List.pairwise_cons.1 h.srt).1 y (by cases q with | nil => simp at hy | cons z q => simp at hy; subst hy; simp)
  omega
 ·by_cases e : v = x
  ·rw [e]; exact hd
  ·exact h.don v hv h0 (by simp [e, hq])
theorem FQ.push {W : List Wy} {N a : Nat} {o : List Int} {x y : Nat} {q : List Nat} (h : FQ W N a o (x :: q)) (hy : y < N) (hxy : adW W x y) (h1 : ov o y < 0) : FQ W N a (o.set y (ov o x + 1)) (x :: (q ++ [y])) := by
 have hx := h.qn x (by simp)
 have hl : y < o.length := by rw [h.fi.len]; exact hy
 have hs := ov_set (ov o x + 1) hl
 have hne : ∀ z ∈ x :: q, z ≠ y := fun z hz e => by have := (h.qn z hz).2; rw [e] at this; omega
 have hxy' : x ≠ y := hne x (by simp)
 refine ⟨h.fi.set hx.1 hy hxy hx.2 h1, fun z hz => ?_, ?_, fun z hz v hv => ?_, fun v hv h0 hq => ?_⟩
 ·rw [← List.cons_append, List.mem_append] at hz
  rw [hs]
  rcases hz with hz | hz
  ·rw [if_neg (hne z hz)]; exact h.qn z hz
  ·have : z = y := by simpa using hz
   rw [if_pos this]; exact ⟨by omega, by omega⟩
 ·rw [← List.cons_append, List.pairwise_append]
  refine ⟨h.srt.imp_of_mem fun {b c} hb hc hbc => ?_, by simp, fun b hb c hc => ?_⟩
  ·rw [hs, if_neg (hne b hb), hs, if_neg (hne c hc)]; exact hbc
  ·have : c = y := by simpa using hc
   rw [this, hs, if_neg (hne b hb), hs, if_pos rfl]
   exact h.top x (by simp) b (h.qn b hb).1
 ·have : x = z := by simpa using hz
  subst this
  rw [hs, hs, if_neg hxy']
  split
  ·omega
  ·exact h.top x (by simp) v hv
 ·rw [← List.cons_append, List.mem_append] at hq
  have hvy : v ≠ y := fun e => hq (.inr (by simp [e]))
  rw [hs, if_neg hvy] at h0
  exact dnk_set (h.don v hv h0 fun hm => hq (.inl hm)) hl h1 h0
structure FR (W : List Wy) (N a : Nat) (o : List Int) (n k : Nat) : Prop where
 fi : FI W N a o
 top : ∀ v, v < N → ov o v ≤ n
 don : ∀ v, v < N → 0 ≤ ov o v → ov o v + 2 ≤ n → dnk W o v W.length
 now : ∀ v, v < N → ov o v + 1 = n → dnk W o v k
theorem FR.start {W : List Wy} {N a : Nat} (ha : a < N) : FR W N a ((List.replicate N (-1 : Int)).set a 0) 1 0 := by
 have h := FQ.start (W := W) ha
 refine ⟨h.fi, fun v hv => ?_, fun v hv h0 h1 => ?_, fun v hv h1 i hi => by omega⟩
 ·have := h.top a (by simp) v hv
  rw [h.fi.at0] at this
  omega
 ·omega
theorem FR.next {W : List Wy} {N a : Nat} {o : List Int} {n : Nat} (h : FR W N a o n W.length) (hn : 1 ≤ n) : FR W N a o (n + 1) 0 := by
 refine ⟨h.fi, fun v hv => by have := h.top v hv; omega, fun v hv h0 h1 => ?_, fun v hv h1 i hi => by omega⟩
 by_cases e : ov o v + 1 = n
 ·exact h.now v hv e
 ·exact h.don v hv h0 (by omega)
theorem FR.end_ {W : List Wy} {N a : Nat} {o : List Int} {n : Nat} (h : FR W N a o n 0) (hn : N < n) : FD W N a o := by
 refine ⟨h.fi, fun u hu h0 => ?_⟩
 have := h.fi.top hu
 exact h.don u hu h0 (by omega)
theorem FR.keep {W : List Wy} {N a : Nat} {o : List Int} {n k : Nat} (h : FR W N a o n k) (ka : k < W.length) (hab : aN W k < N ∧ bN W k < N) (hn : 1 ≤ n)
  (h1 : ov o (aN W k) = n - 1 → 0 ≤ ov o (bN W k)) (h2 : ov o (bN W k) = n - 1 → 0 ≤ ov o (aN W k)) : FR W N a o n (k + 1) := by
 refine ⟨h.fi, h.top, h.don, fun v hv e i hi => ?_⟩
 by_cases hik : i = k
 ·subst hik
  have t1 := h.top _ hab.1
  have t2 := h.top _ hab.2
  refine ⟨fun q => ?_, fun q => ?_⟩
  ·subst q; exact ⟨h1 (by omega), by omega⟩
  ·subst q; exact ⟨h2 (by omega), by omega⟩
 ·exact h.now v hv e i (by omega)
theorem FR.set {W : List Wy} {N a : Nat} {o : List Int} {n k : Nat} (h : FR W N a o n k) {x y : Nat} (hx : x < N) (hy : y < N) (hxy : adW W x y) (hn : 1 ≤ n) (h0 : ov o x = n - 1) (h1 : ov o y < 0) : FR W N a (o.set y n) n k := by
 have hl : y < o.length := by rw [h.fi.len]; exact hy
 have hs := ov_set (n : Int) hl
 have e : (n : Int) = ov o x + 1 := by omega
 refine ⟨by rw [e]; exact h.fi.set hx hy hxy (by omega) h1, fun v hv => ?_, fun v hv q0 q1 => ?_, fun v hv q1 => ?_⟩
 ·rw [hs]; split
  ·omega
  ·exact h.top v hv
 ·rw [hs] at q0 q1
  split at q0
  ·rename_i q; rw [if_pos q] at q1; omega
  ·rename_i q; rw [if_neg q] at q1
   exact dnk_set (h.don v hv q0 q1) hl h1 q0
 ·rw [hs] at q1
  split at q1
  ·omega
  ·exact dnk_set (h.now v hv q1) hl h1 (by omega)
def rst (W : List Wy) (o : List Int) (n k : Nat) : List Int := if ov o (aN W k) = n - 1 ∧ ov o (bN W k) < 0 then o.set (bN W k) n else if ov o (bN W k) = n - 1 ∧ ov o (aN W k) < 0 then o.set (aN W k) n else o
theorem FR.step {W : List Wy} {N a : Nat} {o : List Int} {n k : Nat} (h : FR W N a o n k) (ka : k < W.length) (hab : aN W k < N ∧ bN W k < N) (hn : 1 ≤ n) : FR W N a (rst W o n k) n (k + 1) := by
 have hA : aN W k < o.length := by rw [h.fi.len]; exact hab.1
 have hB : bN W k < o.length := by rw [h.fi.len]; exact hab.2
 unfold rst
 by_cases c1 : ov o (aN W k) = n - 1 ∧ ov o (bN W k) < 0
 ·rw [if_pos c1]
  have hne : aN W k ≠ bN W k := by intro e; rw [e] at c1; omega
  refine (h.set hab.1 hab.2 ⟨k, ka, .inl ⟨rfl, rfl⟩⟩ hn c1.1 c1.2).keep ka hab hn (fun _ => ?_) (fun q => ?_)
  ·rw [ov_set _ hB, if_pos rfl]; omega
  ·rw [ov_set _ hB, if_pos rfl] at q; omega
 ·rw [if_neg c1]
  by_cases c2 : ov o (bN W k) = n - 1 ∧ ov o (aN W k) < 0
  ·rw [if_pos c2]
   refine (h.set hab.2 hab.1 ⟨k, ka, .inr ⟨rfl, rfl⟩⟩ hn c2.1 c2.2).keep ka hab hn (fun q => ?_) (fun _ => ?_)
   ·rw [ov_set _ hA, if_pos rfl] at q; omega
   ·rw [ov_set _ hA, if_pos rfl]; omega
  ·rw [if_neg c2]
   exact h.keep ka hab hn (fun q => by omega) (fun q => by omega)
theorem FR.row {W : List Wy} {N a : Nat} (hW : ∀ i, i < W.length → aN W i < N ∧ bN W i < N) {n : Nat} (hn : 1 ≤ n) {o : List Int} (h : FR W N a o n 0) : ∀ k, k ≤ W.length → ∃ o', FR W N a o' n k
 | 0, _ => ⟨o, h⟩
 | k + 1, hk => by
  obtain ⟨o', h'⟩ := FR.row hW hn h k (by omega)
  exact ⟨_, h'.step (by omega) (hW k (by omega)) hn⟩
theorem FR.ex {W : List Wy} {N a : Nat} (hW : ∀ i, i < W.length → aN W i < N ∧ bN W i < N) (ha : a < N) : ∀ n : Nat, ∃ o, FR W N a o (n + 1) 0
 | 0 => ⟨_, FR.start ha⟩
 | n + 1 => by
  obtain ⟨o, h⟩ := FR.ex hW ha n
  obtain ⟨o', h'⟩ := FR.row hW (by omega) h W.length (Nat.le_refl _)
  exact ⟨o', h'.next (by omega)⟩
noncomputable def dF (W : List Wy) (N a : Nat) : List Int := Classical.epsilon fun o => FD W N a o
theorem FD.is {W : List Wy} {N a : Nat} {o : List Int} (h : FD W N a o) : o = dF W N a := FD.eq h (Classical.epsilon_spec (p := fun o => FD W N a o) ⟨o, h⟩)
theorem FD.dF {W : List Wy} {N a : Nat} (hW : ∀ i, i < W.length → aN W i < N ∧ bN W i < N) (ha : a < N) : FD W N a (dF W N a) := by
 obtain ⟨o, h⟩ := FR.ex hW ha N
 exact Classical.epsilon_spec (p := fun o => FD W N a o) ⟨o, h.end_ (by omega)⟩
end Go.Proofs.Tryz
