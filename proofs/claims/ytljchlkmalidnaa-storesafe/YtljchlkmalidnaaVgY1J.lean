/- A part of the proof of StoreSafe: contracts of functions, with plain laws that they need. -/
import Derived.Test.YtljchlkmalidnaaVgWd
import Derived.Test.YtljchlkmalidnaaVgT
import Derived.Test.YtljchlkmalidnaaVgDm
import Derived.Test.YtljchlkmalidnaaVgEd
import Derived.Test.YtljchlkmalidnaaVgVz
import Derived.Test.YtljchlkmalidnaaVgFv
import Derived.Test.YtljchlkmalidnaaVgVw
import Derived.Test.YtljchlkmalidnaaVgA
set_option linter.all false
set_option maxHeartbeats 8000000
namespace Go.Proofs.Try
open Go.Vg

structure St where
  items : Int
  life : Int
structure Ln where
  kind : Int
  room : Int
  fr : Int
  to : Int
  uses : Int
def stA (x : St) : AV := .agg [.int x.items, .int x.life]
def lnA (x : Ln) : AV := .agg [.int x.kind, .int x.room, .int x.fr, .int x.to, .int x.uses]
abbrev st0 : St := ⟨0, 0⟩
abbrev ln0 : Ln := ⟨0, 0, 0, 0, 0⟩
abbrev storA (ks : List St) (ls : List Ln) : AV := .agg [.lst 2 (ks.map stA), .lst 5 (ls.map lnA)]
theorem getD_st (l : List St) (i : Nat) : (l.map stA).getD i (.agg [.val (.int .i64 0), .val (.int .i64 0)]) = stA (l.getD i st0) := getD_map' stA l i st0
theorem getD_ln (l : List Ln) (i : Nat) : (l.map lnA).getD i (.agg [.val (.int .i64 0), .val (.int .i64 0), .val (.int .i64 0), .val (.int .i64 0), .val (.int .i64 0)]) = lnA (l.getD i ln0) := getD_map' lnA l i ln0
theorem okL_map' {α : Type} {f : α → AV} (k : Nat) (l : List α) (h : ∀ x, (f x).ok k) : okL k (l.map f) := okL_iff.2 fun x hx => by
  obtain ⟨y, _, rfl⟩ := List.mem_map.1 hx
  exact h y
theorem okL_st (k : Nat) (l : List St) : okL k (l.map stA) = True := eq_true (okL_map' k l fun x => by simp [stA, AV.ok, okL])
theorem okL_ln (k : Nat) (l : List Ln) : okL k (l.map lnA) = True := eq_true (okL_map' k l fun x => by simp [lnA, AV.ok, okL])
attribute [push_cast] stA lnA getD_st getD_ln okL_st okL_ln
def wi (n lo hi : Int) : Bool := decide (lo ≤ n) && decide (n ≤ hi)
theorem wi_iff {n lo hi : Int} : wi n lo hi = true ↔ lo ≤ n ∧ n ≤ hi := by simp [wi]
theorem within_pure (n lo hi : Int) : Pure Try.prog 61 [.int n, .int lo, .int hi] (.bool (wi n lo hi)) := by
  (refine Spec.bd 0 Try.func61 Try.results61 Try.ntmps61 ?_; simp only [entry, zipArgs, Nat.reduceAdd])
  (refine w_go ?_)
  (first | exact w_ret | refine w_retZ ?_)
theorem rwithin_pure (n lo hi : Int) : Pure Try.prog 52 [.int n, .int lo, .int hi] (.bool (wi n lo hi)) := by
  (refine Spec.bd 0 Try.func52 Try.results52 Try.ntmps52 ?_; simp only [entry, zipArgs, Nat.reduceAdd])
  (refine w_go ?_)
  (first | exact w_ret | refine w_retZ ?_)
theorem memSt {l : List St} {k : Nat} (h : k < l.length) : l.getD k st0 ∈ l := by simp [h]
theorem findSt {l : List St} {p : St → Bool} {k : Nat} (hk : k < l.length) (h1 : ∀ j, j < k → p (l.getD j st0) = false) (h2 : p (l.getD k st0) = true) : l.any p = true ∧ l.findIdx p = k := by
  have e : ∀ j (hj : j < l.length), l.getD j st0 = l[j] := fun j hj => by simp [hj]
  refine ⟨List.any_eq_true.2 ⟨l[k], List.getElem_mem hk, by rw [← e k hk]; exact h2⟩, ?_⟩
  rw [List.findIdx_eq hk]
  refine ⟨by rw [← e k hk]; exact h2, fun j hj => ?_⟩
  have := h1 j hj
  rw [e j (by omega)] at this
  exact this
theorem anyNoneSt {l : List St} {p : St → Bool} (h : ∀ j, j < l.length → p (l.getD j st0) = false) : l.any p = false := by
  rw [List.any_eq_false]
  intro x hx
  obtain ⟨i, hi, rfl⟩ := List.getElem_of_mem hx
  have := h i hi
  simp [hi] at this
  simp [this]
theorem indexFuncSt (l : List St) (g : FuncId) (caps : List AV) (p : St → Bool) (hg : Enters Try.prog g) (hk : okL 0 caps) (hcv : ∀ m, caps.map (view m) = caps ∧ caps.map (view2 m) = caps) (hp : ∀ x ∈ l, Pure Try.prog g (stA x :: caps) (.bool (p x))) (hl : l.length ≤ 9223372036854775807) :
    Pure Try.prog 86 [.lst 2 (l.map stA), .clo g caps] (.int (if l.any p then (l.findIdx p : Int) else -1)) := by
  (refine Spec.bd 0 Try.func86 Try.results86 Try.ntmps86 ?_; simp only [entry, zipArgs, Nat.reduceAdd])
  (refine x_go (zc @hcv @mapAp) ?_)
  refine Wp.loop (fun k : Nat => { t := [(0, .lst 2 (l.map stA)), (1, .clo g caps), (7, .int l.length), (8, .int k)], m := [], n := 19 }) (fun k => k ≤ l.length ∧ ∀ j, j < k → p (l.getD j st0) = false) (fun k => l.length - k) 0 ?_ ?_ ?_
  · (refine Le.of ?_ ?_ rfl rfl <;> (try simp only [push_cast, seval, hcv, List.map_append]) <;> (try (with_reducible rfl)))
  · simp
  · rintro k ⟨hk1, hk2⟩
    (refine x_go (zc @hcv @mapAp) ?_)
    (apply Wp.cond; (exact x_ev (zc @hcv @mapAp)))
    · (intro hc; first | replace hc := bT hc | skip)
      have hpk := hp _ (memSt hc)
      generalize hx : l.getD k st0 = x at hpk
      (refine x_go (zc @hcv (zc @mapAp @hx)) ?_)
      (apply Run.pureP; (exact x_ev (zc @hcv (zc @mapAp @hx))); (exact hg); (exact hpk); (exact x_al (zc @hcv (zc @mapAp @hx))); (try dsimp only [putA, optG]))
      (refine x_go (zc @hcv (zc @mapAp @hx)) ?_)
      (apply Wp.cond; (exact x_ev (zc @hcv (zc @mapAp @hx))))
      · intro h2
        rw [← hx] at h2
        obtain ⟨e1, e2⟩ := findSt hc hk2 h2
        (refine x_go (zc @hcv (zc @mapAp @hx)) ?_)
        (first | exact x_ret (zc @hcv (zc @mapAp @hx)) | refine x_retZ (zc @hcv (zc @mapAp @hx)) ?_)
        rw [e1, e2]; rfl
      · intro h2
        (refine x_go (zc @hcv (zc @mapAp @hx)) ?_)
        refine ⟨k + 1, ?_, ⟨by omega, fun j hj => ?_⟩, by omega⟩
        · (refine Le.of ?_ ?_ rfl rfl <;> (try simp only [push_cast, seval, hcv, List.map_append, hx]) <;> (try (with_reducible rfl)))
        · by_cases hjk : j = k
          · subst hjk; rw [hx]; exact h2
          · exact hk2 j (by omega)
    · (intro hc; first | replace hc := bT hc | skip)
      (refine x_go (zc @hcv @mapAp) ?_)
      obtain rfl : k = l.length := by omega
      have e1 := anyNoneSt hk2
      (first | exact x_ret (zc @hcv @mapAp) | refine x_retZ (zc @hcv @mapAp) ?_)
      rw [e1]; rfl
theorem containsFuncSt (l : List St) (g : FuncId) (caps : List AV) (p : St → Bool) (hg : Enters Try.prog g) (hk : okL 0 caps) (hcv : ∀ m, caps.map (view m) = caps ∧ caps.map (view2 m) = caps) (hp : ∀ x ∈ l, Pure Try.prog g (stA x :: caps) (.bool (p x))) (hl : l.length ≤ 9223372036854775807) :
    Pure Try.prog 65 [.lst 2 (l.map stA), .clo g caps] (.bool (l.any p)) := by
  (refine Spec.bd 0 Try.func65 Try.results65 Try.ntmps65 ?_; simp only [entry, zipArgs, Nat.reduceAdd])
  (refine x_go (zc @hcv @mapAp) ?_)
  (apply Run.pureP; (exact x_ev (zc @hcv @mapAp)); (exact (Enters.of Try.func86 rfl rfl)); (exact indexFuncSt l g caps p hg hk hcv hp hl); (exact x_al (zc @hcv @mapAp)); (try dsimp only [putA, optG]))
  (refine x_go (zc @hcv @mapAp) ?_)
  (first | exact x_ret (zc @hcv @mapAp) | refine x_retZ (zc @hcv @mapAp) ?_)
  split <;> simp_all
theorem memLn {l : List Ln} {k : Nat} (h : k < l.length) : l.getD k ln0 ∈ l := by simp [h]
theorem memI {l : List Int} {k : Nat} (h : k < l.length) : l.getD k 0 ∈ l := by simp [h]
theorem findI {l : List Int} {p : Int → Bool} {k : Nat} (hk : k < l.length) (h1 : ∀ j, j < k → p (l.getD j 0) = false) (h2 : p (l.getD k 0) = true) : l.any p = true ∧ l.findIdx p = k := by
  have e : ∀ j (hj : j < l.length), l.getD j 0 = l[j] := fun j hj => by simp [hj]
  refine ⟨List.any_eq_true.2 ⟨l[k], List.getElem_mem hk, by rw [← e k hk]; exact h2⟩, ?_⟩
  rw [List.findIdx_eq hk]
  refine ⟨by rw [← e k hk]; exact h2, fun j hj => ?_⟩
  have := h1 j hj
  rw [e j (by omega)] at this
  exact this
theorem anyNoneI {l : List Int} {p : Int → Bool} (h : ∀ j, j < l.length → p (l.getD j 0) = false) : l.any p = false := by
  rw [List.any_eq_false]
  intro x hx
  obtain ⟨i, hi, rfl⟩ := List.getElem_of_mem hx
  have := h i hi
  simp [hi] at this
  simp [this]
theorem indexFuncI (l : List Int) (g : FuncId) (caps : List AV) (p : Int → Bool) (hg : Enters Try.prog g) (hk : okL 0 caps) (hcv : ∀ m, caps.map (view m) = caps ∧ caps.map (view2 m) = caps) (hp : ∀ x ∈ l, Pure Try.prog g (AV.int x :: caps) (.bool (p x))) (hl : l.length ≤ 9223372036854775807) :
    Pure Try.prog 93 [.ints l, .clo g caps] (.int (if l.any p then (l.findIdx p : Int) else -1)) := by
  (refine Spec.bd 0 Try.func93 Try.results93 Try.ntmps93 ?_; simp only [entry, zipArgs, Nat.reduceAdd])
  (refine x_go (zc @hcv @mapAp) ?_)
  refine Wp.loop (fun k : Nat => { t := [(0, .ints l), (1, .clo g caps), (7, .int l.length), (8, .int k)], m := [], n := 19 }) (fun k => k ≤ l.length ∧ ∀ j, j < k → p (l.getD j 0) = false) (fun k => l.length - k) 0 ?_ ?_ ?_
  · (refine Le.of ?_ ?_ rfl rfl <;> (try simp only [push_cast, seval, hcv, List.map_append]) <;> (try (with_reducible rfl)))
  · simp
  · rintro k ⟨hk1, hk2⟩
    (refine x_go (zc @hcv @mapAp) ?_)
    (apply Wp.cond; (exact x_ev (zc @hcv @mapAp)))
    · (intro hc; first | replace hc := bT hc | skip)
      have hpk := hp _ (memI hc)
      generalize hx : l.getD k 0 = x at hpk
      (refine x_go (zc @hcv (zc @mapAp @hx)) ?_)
      (apply Run.pureP; (exact x_ev (zc @hcv (zc @mapAp @hx))); (exact hg); (exact hpk); (exact x_al (zc @hcv (zc @mapAp @hx))); (try dsimp only [putA, optG]))
      (refine x_go (zc @hcv (zc @mapAp @hx)) ?_)
      (apply Wp.cond; (exact x_ev (zc @hcv (zc @mapAp @hx))))
      · intro h2
        rw [← hx] at h2
        obtain ⟨e1, e2⟩ := findI hc hk2 h2
        (refine x_go (zc @hcv (zc @mapAp @hx)) ?_)
        (first | exact x_ret (zc @hcv (zc @mapAp @hx)) | refine x_retZ (zc @hcv (zc @mapAp @hx)) ?_)
        rw [e1, e2]; rfl
      · intro h2
        (refine x_go (zc @hcv (zc @mapAp @hx)) ?_)
        refine ⟨k + 1, ?_, ⟨by omega, fun j hj => ?_⟩, by omega⟩
        · (refine Le.of ?_ ?_ rfl rfl <;> (try simp only [push_cast, seval, hcv, List.map_append, hx]) <;> (try (with_reducible rfl)))
        · by_cases hjk : j = k
          · subst hjk; rw [hx]; exact h2
          · exact hk2 j (by omega)
    · (intro hc; first | replace hc := bT hc | skip)
      (refine x_go (zc @hcv @mapAp) ?_)
      obtain rfl : k = l.length := by omega
      have e1 := anyNoneI hk2
      (first | exact x_ret (zc @hcv @mapAp) | refine x_retZ (zc @hcv @mapAp) ?_)
      rw [e1]; rfl
theorem containsFuncI (l : List Int) (g : FuncId) (caps : List AV) (p : Int → Bool) (hg : Enters Try.prog g) (hk : okL 0 caps) (hcv : ∀ m, caps.map (view m) = caps ∧ caps.map (view2 m) = caps) (hp : ∀ x ∈ l, Pure Try.prog g (AV.int x :: caps) (.bool (p x))) (hl : l.length ≤ 9223372036854775807) :
    Pure Try.prog 87 [.ints l, .clo g caps] (.bool (l.any p)) := by
  (refine Spec.bd 0 Try.func87 Try.results87 Try.ntmps87 ?_; simp only [entry, zipArgs, Nat.reduceAdd])
  (refine x_go (zc @hcv @mapAp) ?_)
  (apply Run.pureP; (exact x_ev (zc @hcv @mapAp)); (exact (Enters.of Try.func93 rfl rfl)); (exact indexFuncI l g caps p hg hk hcv hp hl); (exact x_al (zc @hcv @mapAp)); (try dsimp only [putA, optG]))
  (refine x_go (zc @hcv @mapAp) ?_)
  (first | exact x_ret (zc @hcv @mapAp) | refine x_retZ (zc @hcv @mapAp) ?_)
  split <;> simp_all
end Go.Proofs.Try
set_option maxHeartbeats 8000000
namespace Go.Proofs.Try
open Go.Vg

def stB (x : St) : Bool := wi x.items 0 8 && wi x.life 1 100
def lnB (n : Int) (x : Ln) : Bool := wi x.kind 0 (n - 1) && wi x.room 0 100 && wi x.to 1 1440 && wi x.fr 0 (IntKind.i64.wrap (x.to - 1)) && wi x.uses 0 100
def checkB (ks : List St) (ls : List Ln) : Bool := decide (ks.length ≤ 8) && decide (ls.length ≤ 20) && ks.all stB && ls.all (lnB ks.length)
def chkE (ks : List St) (ls : List Ln) : Int := if checkB ks ls then 0 else 100
theorem check1_pure (x : St) : Pure Try.prog 66 [stA x] (.bool (!stB x)) := by
  (refine Spec.bd 0 Try.func66 Try.results66 Try.ntmps66 ?_; simp only [entry, zipArgs, Nat.reduceAdd])
  (refine w_go ?_)
  (apply Run.pureP; (exact w_ev); (exact (Enters.of Try.func61 rfl rfl)); (exact within_pure _ _ _); (exact w_al); (try dsimp only [putA, optG]))
  (refine w_go ?_)
  cases h : wi x.items 0 8 with
  | false =>
    (refine x_gg @h ?_)
    (first | exact x_ret @h | refine x_retZ @h ?_)
    simp [stB, h]
  | true =>
    (refine x_gg @h ?_)
    (apply Run.pureP; (exact x_ev @h); (exact (Enters.of Try.func61 rfl rfl)); (exact within_pure _ _ _); (exact x_al @h); (try dsimp only [putA, optG]))
    (refine x_go @h ?_)
    (first | exact x_ret @h | refine x_retZ @h ?_)
    simp [stB, h]
theorem all_at {α : Type} {d : α} {p : α → Bool} {l : List α} (h : ∀ j, j < l.length → p (l.getD j d) = true) : l.all p = true := by
  rw [List.all_eq_true]
  intro x hx
  obtain ⟨i, hi, rfl⟩ := List.getElem_of_mem hx
  simpa [hi] using h i hi
theorem all_no {α : Type} {d : α} {p : α → Bool} {l : List α} {k : Nat} (hk : k < l.length) (h : p (l.getD k d) = false) : l.all p = false := by
  rw [← Bool.not_eq_true, List.all_eq_true]
  intro h2
  have := h2 (l.getD k d) (by simp [hk])
  rw [h] at this; cases this
theorem any_not {α : Type} (p : α → Bool) (l : List α) : (l.any fun x => !p x) = !l.all p := by
  induction l with
  | nil => rfl
  | cons a l ih => simp [ih, Bool.not_and]
theorem check_pure (ks : List St) (ls : List Ln) (hk : ks.length ≤ 9223372036854775807) (hl : ls.length ≤ 9223372036854775807) : Pure Try.prog 28 [storA ks ls] (.int (chkE ks ls)) := by
  (refine Spec.bd 0 Try.func28 Try.results28 Try.ntmps28 ?_; simp only [entry, zipArgs, Nat.reduceAdd])
  (refine w_go ?_)
  (apply Wp.cond; (exact w_ev))
  · intro hc
    simp only [Bool.or_eq_true, decide_eq_true_eq] at hc
    (refine w_go ?_)
    (first | exact w_ret | refine w_retZ ?_)
    rw [chkE, if_neg]
    simp only [checkB, Bool.and_eq_true, decide_eq_true_eq]
    omega
  · intro hc
    simp only [Bool.or_eq_false_iff, decide_eq_false_iff_not, Int.not_lt] at hc
    (refine w_go ?_)
    (apply Run.pureP; (exact w_ev); (exact (Enters.of Try.func65 rfl rfl)); (exact containsFuncSt ks 66 [] (fun x => !stB x) (Enters.of Try.func66 rfl rfl) trivial (fun _ => ⟨rfl, rfl⟩) (fun x _ => check1_pure x) hk); (exact w_al); (try dsimp only [putA, optG]))
    rw [any_not]
    (refine w_go ?_)
    cases hs : ks.all stB with
    | false =>
      (refine x_gg @hs ?_)
      (first | exact x_ret @hs | refine x_retZ @hs ?_)
      simp [chkE, checkB, hs]
    | true =>
      (refine x_gg @hs ?_)
      (refine Wp.vacs 1 ?_; (try simp only [List.replicate_succ, List.replicate_zero, List.cons_append, List.nil_append]))
      refine Wp.loop (fun (q : Nat × Kind) => { t := [(1, .optr 0 0 0 0), (19, .lst 5 (ls.map lnA)), (20, .int ls.length), (21, .int q.1)], m := [⟨0, .row 2 [storA ks ls]⟩, ⟨q.1, q.2⟩], n := 61 }) (fun q => q.1 ≤ ls.length ∧ ∀ j, j < q.1 → lnB ks.length (ls.getD j ln0) = true) (fun q => ls.length - q.1) (0, .row 1 []) ?_ ?_ ?_
      · (refine Le.of ?_ ?_ rfl rfl <;> (try simp only [push_cast, seval, hs]) <;> (try (with_reducible rfl)))
      · simp
      · rintro ⟨k, kd⟩ ⟨hk1, hk2⟩
        (refine x_gs @hs ?_)
        (apply Wp.cond; (exact x_ev @hs))
        · (intro hc; first | replace hc := bT hc | skip)
          generalize hx : ls.getD k ln0 = x
          (refine x_gs (zc @hs @hx) ?_)
          (apply Run.alcAt 1; (exact x_ev (zc @hs @hx)); ((try simp only [push_cast, seval, hs, hx]) <;> exact sT); exact rfl; (try simp only [push_cast, seval, hs, hx]))
          (refine x_go (zc @hs @hx) ?_)
          (apply Run.pureP; (exact x_ev (zc @hs @hx)); (exact (Enters.of Try.func61 rfl rfl)); (exact within_pure _ _ _); (exact x_al (zc @hs @hx)); (try dsimp only [putA, optG]))
          (refine x_go (zc @hs @hx) ?_)
          (apply Run.pureP; (exact x_ev (zc @hs @hx)); (exact (Enters.of Try.func61 rfl rfl)); (exact within_pure _ _ _); (exact x_al (zc @hs @hx)); (try dsimp only [putA, optG]))
          (refine x_go (zc @hs @hx) ?_)
          (apply Run.pureP; (exact x_ev (zc @hs @hx)); (exact (Enters.of Try.func61 rfl rfl)); (exact within_pure _ _ _); (exact x_al (zc @hs @hx)); (try dsimp only [putA, optG]))
          (refine x_go (zc @hs @hx) ?_)
          (apply Run.pureP; (exact x_ev (zc @hs @hx)); (exact (Enters.of Try.func61 rfl rfl)); (exact within_pure _ _ _); (exact x_al (zc @hs @hx)); (try dsimp only [putA, optG]))
          (refine x_go (zc @hs @hx) ?_)
          (apply Run.pureP; (exact x_ev (zc @hs @hx)); (exact (Enters.of Try.func61 rfl rfl)); (exact within_pure _ _ _); (exact x_al (zc @hs @hx)); (try dsimp only [putA, optG]))
          (refine x_go (zc @hs @hx) ?_)
          (apply Wp.cond; (exact x_ev (zc @hs @hx)))
          · intro h2
            (refine x_go (zc @hs @hx) ?_)
            (first | exact x_ret (zc @hs @hx) | refine x_retZ (zc @hs @hx) ?_)
            have h3 : lnB ks.length x = false := by rw [← Bool.not_eq_true]; intro h3; simp only [lnB, Bool.and_eq_true] at h3; simp [h3] at h2
            rw [← hx] at h3
            simp [chkE, checkB, all_no hc h3]
          · intro h2
            (refine x_go (zc @hs @hx) ?_)
            have h3 : lnB ks.length x = true := by simpa [lnB] using h2
            rw [← hx] at h3
            refine ⟨(k + 1, .row 5 [lnA x]), ?_, ⟨by simp only; omega, fun j hj => ?_⟩, by simp only; omega⟩
            · (refine Le.of ?_ ?_ rfl rfl <;> (try simp only [push_cast, seval, hs, hx]) <;> (try (with_reducible rfl)))
            · by_cases hjk : j = k
              · subst hjk; exact h3
              · exact hk2 j (by simp only at hj; omega)
        · (intro hc; first | replace hc := bT hc | skip)
          (refine x_go @hs ?_)
          (first | exact x_ret @hs | refine x_retZ @hs ?_)
          have h3 : ls.all (lnB ks.length) = true := all_at fun j hj => hk2 j (by omega)
          rw [chkE, if_pos]
          simp only [checkB, hs, h3, Bool.and_true, Bool.and_eq_true, decide_eq_true_eq]
          omega
theorem rcheck_pure (ks : List St) (ls : List Ln) (hk : ks.length ≤ 9223372036854775807) (hl : ls.length ≤ 9223372036854775807) : Pure Try.prog 29 [storA ks ls] (.int (chkE ks ls)) := by
  (refine Spec.bd 0 Try.func29 Try.results29 Try.ntmps29 ?_; simp only [entry, zipArgs, Nat.reduceAdd])
  (refine w_go ?_)
  (apply Wp.cond; (exact w_ev))
  · intro hc
    simp only [Bool.or_eq_true, decide_eq_true_eq] at hc
    (refine w_go ?_)
    (first | exact w_ret | refine w_retZ ?_)
    rw [chkE, if_neg]
    simp only [checkB, Bool.and_eq_true, decide_eq_true_eq]
    omega
  · intro hc
    simp only [Bool.or_eq_false_iff, decide_eq_false_iff_not, Int.not_lt] at hc
    (refine w_go ?_)
    refine Wp.loop (fun k : Nat => { t := [(1, .optr 0 0 0 0), (3, .int k)], m := [⟨0, .row 2 [storA ks ls]⟩], n := 88 }) (fun k => k ≤ ks.length ∧ ∀ j, j < k → stB (ks.getD j st0) = true) (fun k => ks.length - k) 0 ?_ ?_ ?_
    · (refine Le.of ?_ ?_ rfl rfl <;> (try simp only [push_cast, seval]) <;> (try (with_reducible rfl)))
    · simp
    · rintro k ⟨hk1, hk2⟩
      (refine w_go ?_)
      (apply Wp.cond; (exact w_ev))
      · (intro hc; first | replace hc := bT hc | skip)
        generalize hx : ks.getD k st0 = x
        (refine x_go @hx ?_)
        (apply Run.pureP; (exact x_ev @hx); (exact (Enters.of Try.func52 rfl rfl)); (exact rwithin_pure _ _ _); (exact x_al @hx); (try dsimp only [putA, optG]))
        (refine x_go @hx ?_)
        (apply Run.pureP; (exact x_ev @hx); (exact (Enters.of Try.func52 rfl rfl)); (exact rwithin_pure _ _ _); (exact x_al @hx); (try dsimp only [putA, optG]))
        (refine x_go @hx ?_)
        (apply Wp.cond; (exact x_ev @hx))
        · intro h2
          (refine x_go @hx ?_)
          (first | exact x_ret @hx | refine x_retZ @hx ?_)
          have h3 : stB x = false := by rw [← Bool.not_eq_true]; intro h3; simp only [stB, Bool.and_eq_true] at h3; simp [h3] at h2
          rw [← hx] at h3
          simp [chkE, checkB, all_no hc h3]
        · intro h2
          (refine x_go @hx ?_)
          have h3 : stB x = true := by simpa [stB] using h2
          rw [← hx] at h3
          refine ⟨k + 1, ?_, ⟨by omega, fun j hj => ?_⟩, by omega⟩
          · (refine Le.of ?_ ?_ rfl rfl <;> (try simp only [push_cast, seval, hx]) <;> (try (with_reducible rfl)))
          · by_cases hjk : j = k
            · subst hjk; exact h3
            · exact hk2 j (by omega)
      · (intro hc; first | replace hc := bT hc | skip)
        have hs : ks.all stB = true := all_at fun j hj => hk2 j (by omega)
        (refine w_go ?_)
        (refine Wp.vacs 1 ?_; (try simp only [List.replicate_succ, List.replicate_zero, List.cons_append, List.nil_append]))
        refine Wp.loop (fun (q : Nat × Kind) => { t := [(1, .optr 0 0 0 0), (4, .int q.1)], m := [⟨0, .row 2 [storA ks ls]⟩, ⟨q.1, q.2⟩], n := 88 }) (fun q => q.1 ≤ ls.length ∧ ∀ j, j < q.1 → lnB ks.length (ls.getD j ln0) = true) (fun q => ls.length - q.1) (0, .row 1 []) ?_ ?_ ?_
        · (refine Le.of ?_ ?_ rfl rfl <;> (try simp only [push_cast, seval]) <;> (try (with_reducible rfl)))
        · simp
        · rintro ⟨k, kd⟩ ⟨hk1, hk2⟩
          (refine w_gs ?_)
          (apply Wp.cond; (exact w_ev))
          · (intro hc; first | replace hc := bT hc | skip)
            generalize hx : ls.getD k ln0 = x
            (refine x_gs @hx ?_)
            (apply Run.alcAt 1; (exact x_ev @hx); ((try simp only [push_cast, seval, hx]) <;> exact sT); exact rfl; (try simp only [push_cast, seval, hx]))
            (refine x_go @hx ?_)
            (apply Run.pureP; (exact x_ev @hx); (exact (Enters.of Try.func52 rfl rfl)); (exact rwithin_pure _ _ _); (exact x_al @hx); (try dsimp only [putA, optG]))
            (refine x_go @hx ?_)
            (apply Run.pureP; (exact x_ev @hx); (exact (Enters.of Try.func52 rfl rfl)); (exact rwithin_pure _ _ _); (exact x_al @hx); (try dsimp only [putA, optG]))
            (refine x_go @hx ?_)
            (apply Run.pureP; (exact x_ev @hx); (exact (Enters.of Try.func52 rfl rfl)); (exact rwithin_pure _ _ _); (exact x_al @hx); (try dsimp only [putA, optG]))
            (refine x_go @hx ?_)
            (apply Run.pureP; (exact x_ev @hx); (exact (Enters.of Try.func52 rfl rfl)); (exact rwithin_pure _ _ _); (exact x_al @hx); (try dsimp only [putA, optG]))
            (refine x_go @hx ?_)
            (apply Run.pureP; (exact x_ev @hx); (exact (Enters.of Try.func52 rfl rfl)); (exact rwithin_pure _ _ _); (exact x_al @hx); (try dsimp only [putA, optG]))
            (refine x_go @hx ?_)
            (apply Wp.cond; (exact x_ev @hx))
            · intro h2
              (refine x_go @hx ?_)
              (first | exact x_ret @hx | refine x_retZ @hx ?_)
              have h3 : lnB ks.length x = false := by rw [← Bool.not_eq_true]; intro h3; simp only [lnB, Bool.and_eq_true] at h3; simp [h3] at h2
              rw [← hx] at h3
              simp [chkE, checkB, all_no hc h3]
            · intro h2
              (refine x_go @hx ?_)
              have h3 : lnB ks.length x = true := by simpa [lnB] using h2
              rw [← hx] at h3
              refine ⟨(k + 1, .row 5 [lnA x]), ?_, ⟨by simp only; omega, fun j hj => ?_⟩, by simp only; omega⟩
              · (refine Le.of ?_ ?_ rfl rfl <;> (try simp only [push_cast, seval, hx]) <;> (try (with_reducible rfl)))
              · by_cases hjk : j = k
                · subst hjk; exact h3
                · exact hk2 j (by simp only at hj; omega)
          · (intro hc; first | replace hc := bT hc | skip)
            (refine w_go ?_)
            (first | exact w_ret | refine w_retZ ?_)
            have h3 : ls.all (lnB ks.length) = true := all_at fun j hj => hk2 j (by omega)
            rw [chkE, if_pos]
            simp only [checkB, hs, h3, Bool.and_true, Bool.and_eq_true, decide_eq_true_eq]
            omega
end Go.Proofs.Try
set_option maxHeartbeats 8000000
namespace Go.Proofs.Try
open Go.Vg

def ovB (a b : Ln) : Bool := (decide (a.kind = b.kind) && decide (a.fr < b.to)) && decide (b.fr < a.to)
theorem overlap_pure (a b : Ln) : Pure Try.prog 62 [lnA a, lnA b] (.bool (ovB a b)) := by
  (refine Spec.bd 0 Try.func62 Try.results62 Try.ntmps62 ?_; simp only [entry, zipArgs, Nat.reduceAdd])
  (refine w_go ?_)
  (first | exact w_ret | refine w_retZ ?_)
structure SV (ks : List St) (ls : List Ln) : Prop where
  k8 : ks.length ≤ 8
  l20 : ls.length ≤ 20
  st : ∀ j, j < ks.length → (0 ≤ (ks.getD j st0).items ∧ (ks.getD j st0).items ≤ 8) ∧ 1 ≤ (ks.getD j st0).life ∧ (ks.getD j st0).life ≤ 100
  ln : ∀ i, i < ls.length → (0 ≤ (ls.getD i ln0).kind ∧ (ls.getD i ln0).kind < ks.length) ∧ (0 ≤ (ls.getD i ln0).fr ∧ (ls.getD i ln0).fr < (ls.getD i ln0).to ∧ (ls.getD i ln0).to ≤ 1440) ∧ 0 ≤ (ls.getD i ln0).uses ∧ (ls.getD i ln0).uses ≤ 100
theorem checkB_ok {ks : List St} {ls : List Ln} (h : checkB ks ls = true) : SV ks ls := by
  simp only [checkB, Bool.and_eq_true, decide_eq_true_eq, List.all_eq_true] at h
  obtain ⟨⟨⟨h1, h2⟩, h3⟩, h4⟩ := h
  refine ⟨h1, h2, fun j hj => ?_, fun i hi => ?_⟩
  · have := h3 _ (memSt hj)
    simp only [stB, Bool.and_eq_true, wi_iff] at this
    exact this
  · have := h4 _ (memLn hi)
    simp only [lnB, Bool.and_eq_true, wi_iff] at this
    obtain ⟨⟨⟨⟨q1, q2⟩, q3⟩, q4⟩, q5⟩ := this
    rw [wI (by omega) (by omega)] at q4
    omega
theorem item_pure {ks : List St} {ls : List Ln} (hv : SV ks ls) (kind n : Int) (hk : 0 ≤ kind ∧ kind < ks.length) : Pure Try.prog 73 [storA ks ls, .int kind, .int n] (.bool (wi n 0 ((ks.getD kind.toNat st0).items - 1))) := by
  have hs := hv.st kind.toNat (by omega)
  generalize hx : ks.getD kind.toNat st0 = x at *
  (refine Spec.bd 0 Try.func73 Try.results73 Try.ntmps73 ?_; simp only [entry, zipArgs, Nat.reduceAdd])
  (refine x_go @hx ?_)
  (apply Run.pureP; (exact x_ev @hx); (exact (Enters.of Try.func61 rfl rfl)); (exact within_pure _ _ _); (exact x_al @hx); (try dsimp only [putA, optG]))
  (refine x_go @hx ?_)
  (first | exact x_ret @hx | refine x_retZ @hx ?_)
def plB (ks : List St) (ls : List Ln) (plan : List Int) (i : Nat) : Bool := wi (plan.getD i 0) (-1) ((ks.getD (ls.getD i ln0).kind.toNat st0).items - 1)
def planB (ks : List St) (ls : List Ln) (plan : List Int) : Bool := decide (plan.length = ls.length) && (List.range plan.length).all (plB ks ls plan)
def chk2E (ks : List St) (ls : List Ln) (plan : List Int) : Int := if checkB ks ls then (if planB ks ls plan then 0 else 1) else 100
theorem range_all {n : Nat} {p : Nat → Bool} (h : ∀ j, j < n → p j = true) : (List.range n).all p = true := by
  rw [List.all_eq_true]; intro x hx; exact h x (List.mem_range.1 hx)
theorem range_no {n k : Nat} {p : Nat → Bool} (hk : k < n) (h : p k = false) : (List.range n).all p = false := by
  rw [← Bool.not_eq_true, List.all_eq_true]
  intro h2
  have := h2 k (List.mem_range.2 hk)
  rw [h] at this; cases this
theorem chkE_ne (ks : List St) (ls : List Ln) : decide (chkE ks ls = 0) = checkB ks ls := by
  unfold chkE; cases checkB ks ls <;> rfl
theorem checked_pure (ks : List St) (ls : List Ln) (plan : List Int) (hk : ks.length ≤ 9223372036854775807) (hl : ls.length ≤ 9223372036854775807) (hp : plan.length ≤ 9223372036854775807) : Pure Try.prog 59 [storA ks ls, .ints plan] (.int (chk2E ks ls plan)) := by
  have hck := check_pure ks ls hk hl
  cases h1 : checkB ks ls with
  | false =>
    have e : chkE ks ls = 100 := by simp [chkE, h1]
    rw [e] at hck
    (refine Spec.bd 0 Try.func59 Try.results59 Try.ntmps59 ?_; simp only [entry, zipArgs, Nat.reduceAdd])
    (refine w_go ?_)
    (apply Run.pureP; (exact w_ev); (exact (Enters.of Try.func28 rfl rfl)); (exact hck); (exact w_al); (try dsimp only [putA, optG]))
    (refine w_gg ?_)
    (first | exact w_ret | refine w_retZ ?_)
    simp [chk2E, h1]
  | true =>
    have e : chkE ks ls = 0 := by simp [chkE, h1]
    rw [e] at hck
    have hv := checkB_ok h1
    have hl20 := hv.l20
    (refine Spec.bd 0 Try.func59 Try.results59 Try.ntmps59 ?_; simp only [entry, zipArgs, Nat.reduceAdd])
    (refine w_go ?_)
    (apply Run.pureP; (exact w_ev); (exact (Enters.of Try.func28 rfl rfl)); (exact hck); (exact w_al); (try dsimp only [putA, optG]))
    (refine w_gg ?_)
    (apply Wp.cond; (exact w_ev))
    · intro h2
      (refine w_go ?_)
      (first | exact w_ret | refine w_retZ ?_)
      have h3 : ¬ plan.length = ls.length := by simp at h2; omega
      simp [chk2E, h1, planB, h3]
    · intro h2
      have h3 : plan.length = ls.length := by simp at h2; omega
      (refine w_go ?_)
      refine Wp.loop (fun k : Nat => { t := [(1, .ints plan), (2, .optr 0 0 0 0), (19, .ints plan), (20, .int plan.length), (21, .int k)], m := [⟨0, .row 2 [storA ks ls]⟩], n := 41 }) (fun k => k ≤ plan.length ∧ ∀ j, j < k → plB ks ls plan j = true) (fun k => plan.length - k) 0 ?_ ?_ ?_
      · (refine Le.of ?_ ?_ rfl rfl <;> (try simp only [push_cast, seval]) <;> (try (with_reducible rfl)))
      · simp
      · rintro k ⟨hk1, hk2⟩
        (refine w_go ?_)
        (apply Wp.cond; (exact w_ev))
        · (intro hc; first | replace hc := bT hc | skip)
          have hlk := hv.ln k (by omega)
          have hsk := hv.st (ls.getD k ln0).kind.toNat (by omega)
          have hpl : plB ks ls plan k = wi (plan.getD k 0) (-1) ((ks.getD (ls.getD k ln0).kind.toNat st0).items - 1) := rfl
          have hit := item_pure hv (ls.getD k ln0).kind (plan.getD k 0) (by omega)
          generalize hx : ls.getD k ln0 = x at hlk hsk hpl hit
          generalize hn : plan.getD k 0 = n at hpl hit
          generalize hy : (ks.getD x.kind.toNat st0).items = y at hsk hpl hit
          (refine x_go (zc @hx (zc @hn @h3)) ?_)
          (refine Wp.rnD 14 ?_; apply exAb; (((refine x_abn (zc @hx (zc @hn @h3)) ?_); (apply Abn.pureP; (exact x_ev (zc @hx (zc @hn @h3))); (exact (Enters.of Try.func73 rfl rfl)); (exact hit); (exact x_al (zc @hx (zc @hn @h3))); (try dsimp only [putA, optG])); (refine x_abn (zc @hx (zc @hn @h3)) ?_)); exact Abn.nil))
          (refine x_go (zc @hx (zc @hn @h3)) ?_)
          have e2 : (!decide (n = -1) && !wi n 0 (y - 1)) = !wi n (-1) (y - 1) := by
            rw [Bool.eq_iff_iff]; simp only [wi, Bool.and_eq_true, Bool.not_eq_true', decide_eq_false_iff_not, Bool.and_eq_false_iff]; omega
          (apply Wp.cond; (exact x_ev (zc @hx (zc @hn @h3))))
          · intro h4
            (refine x_go (zc @hx (zc @hn @h3)) ?_)
            (first | exact x_ret (zc @hx (zc @hn @h3)) | refine x_retZ (zc @hx (zc @hn @h3)) ?_)
            rw [e2, ← hpl, Bool.not_eq_true'] at h4
            simp [chk2E, h1, planB, range_no hc h4]
          · intro h4
            rw [e2, ← hpl, Bool.not_eq_false'] at h4
            (refine x_go (zc @hx (zc @hn @h3)) ?_)
            refine ⟨k + 1, ?_, ⟨by omega, fun j hj => ?_⟩, by omega⟩
            · (refine Le.of ?_ ?_ rfl rfl <;> (try simp only [push_cast, seval, hx, hn, h3]) <;> (try (with_reducible rfl)))
            · by_cases hjk : j = k
              · subst hjk; exact h4
              · exact hk2 j (by omega)
        · (intro hc; first | replace hc := bT hc | skip)
          (refine w_go ?_)
          (first | exact w_ret | refine w_retZ ?_)
          have h5 : (List.range plan.length).all (plB ks ls plan) = true := range_all fun j hj => hk2 j (by omega)
          rw [chk2E, if_pos h1, planB, h5]
          simp [h3]
end Go.Proofs.Try
set_option maxHeartbeats 8000000
namespace Go.Proofs.Try
open Go.Vg

theorem chk2E_zero {ks : List St} {ls : List Ln} {plan : List Int} (h : chk2E ks ls plan = 0) : SV ks ls ∧ plan.length = ls.length ∧ ∀ i, i < ls.length → plB ks ls plan i = true := by
  unfold chk2E at h
  split at h
  · rename_i h1
    split at h
    · rename_i h2
      simp only [planB, Bool.and_eq_true, decide_eq_true_eq, List.all_eq_true, List.mem_range] at h2
      exact ⟨checkB_ok h1, h2.1, fun i hi => h2.2 i (by omega)⟩
    · cases h
  · cases h
end Go.Proofs.Try
set_option maxHeartbeats 8000000
namespace Go.Proofs.Try
open Go.Vg
end Go.Proofs.Try
set_option maxHeartbeats 8000000
namespace Go.Proofs.Try
open Go.Vg

def wearS (ls : List Ln) (plan : List Int) (kind : Int) (i : Nat) (w : List Int) : List Int :=
  if (decide ((ls.getD i ln0).kind = kind) && decide (0 ≤ plan.getD i 0)) = true then w.set (plan.getD i 0).toNat (w.getD (plan.getD i 0).toNat 0 + (ls.getD i ln0).uses) else w
def wearP (ls : List Ln) (plan : List Int) (kind : Int) (n : Nat) : Nat → List Int
  | 0 => List.replicate n 0
  | i + 1 => wearS ls plan kind i (wearP ls plan kind n i)
theorem wearP_len (ls : List Ln) (plan : List Int) (kind : Int) (n : Nat) : ∀ i, (wearP ls plan kind n i).length = n
  | 0 => by simp [wearP]
  | i + 1 => by simp only [wearP, wearS]; split <;> simp [wearP_len ls plan kind n i]
structure PV (ks : List St) (ls : List Ln) (plan : List Int) : Prop where
  sv : SV ks ls
  len : plan.length = ls.length
  pl : ∀ i, i < ls.length → -1 ≤ plan.getD i 0 ∧ plan.getD i 0 ≤ (ks.getD (ls.getD i ln0).kind.toNat st0).items - 1
theorem chk2E_pv {ks : List St} {ls : List Ln} {plan : List Int} (h : chk2E ks ls plan = 0) : PV ks ls plan := by
  obtain ⟨h1, h2, h3⟩ := chk2E_zero h
  exact ⟨h1, h2, fun i hi => wi_iff.1 (h3 i hi)⟩
end Go.Proofs.Try
set_option maxHeartbeats 8000000
namespace Go.Proofs.Try
open Go.Vg

def prA (p : Int × Int) : AV := .agg [.int p.1, .int p.2]
theorem app_pr (l : List (Int × Int)) (a b : Int) : l.map prA ++ [.agg [.val (.int .i64 a), .val (.int .i64 b)]] = (l ++ [(a, b)]).map prA := by simp [prA]
theorem okL_pr (k : Nat) (l : List (Int × Int)) : okL k (l.map prA) = True := eq_true (okL_map' k l fun x => by simp [prA, AV.ok, okL])
attribute [push_cast] app_pr okL_pr
end Go.Proofs.Try
set_option maxHeartbeats 8000000
set_option maxRecDepth 20000
namespace Go.Proofs.Try
open Go.Vg

/-! rows of structs are sorted by a key, in own memory -/
section
variable {α : Type}
def SortA (ky : α → Int) (L : List α) : Prop := L.Pairwise fun a b => ky a ≤ ky b
def insA (S : List α) (j : Nat) (x : α) (R : List α) : List α := S.take j ++ x :: (S.drop j ++ R)
theorem insA_len (S : List α) (j : Nat) (x : α) (R : List α) (h : j ≤ S.length) : (insA S j x R).length = S.length + 1 + R.length := by
  simp [insA]; omega
theorem insA_at (d : α) (S : List α) (j : Nat) (x : α) (R : List α) (h : j ≤ S.length) : (insA S j x R).getD j d = x := by
  have hl : (S.take j).length = j := by simp; omega
  simp only [insA, List.getD_eq_getElem?_getD]
  rw [List.getElem?_append_right (by omega), hl]; simp
theorem insA_lo (d : α) (S : List α) (j : Nat) (x : α) (R : List α) (h : j < S.length) : (insA S (j + 1) x R).getD j d = S.getD j d := by
  simp only [insA, List.getD_eq_getElem?_getD]
  rw [List.getElem?_append_left (by simp; omega)]; simp
theorem insA_swap (d : α) (S : List α) (j : Nat) (x : α) (R : List α) (h : j < S.length) : ((insA S (j + 1) x R).set (j + 1) (S.getD j d)).set j x = insA S j x R := by
  have hl : (S.take j).length = j := by simp; omega
  have e1 : S.take (j + 1) = S.take j ++ [S.getD j d] := by rw [List.take_add_one]; simp [h]
  have e2 : S.drop j = S.getD j d :: S.drop (j + 1) := by rw [List.drop_eq_getElem_cons h]; simp [h]
  unfold insA
  rw [e1, e2, List.append_assoc, List.set_append_right _ _ (by omega), hl, show j + 1 - j = 1 by omega]
  simp only [List.cons_append, List.nil_append, List.set_cons_succ, List.set_cons_zero]
  rw [List.set_append_right _ _ (by omega), hl, Nat.sub_self]
  rfl
theorem insA_top (d : α) (D : List α) (S : List α) (i : Nat) (h : i < D.length) (hs : S.length = i) : S ++ D.drop i = insA S i (D.getD i d) (D.drop (i + 1)) := by
  unfold insA
  rw [List.take_of_length_le (by omega), List.drop_of_length_le (by omega : S.length ≤ i), List.drop_eq_getElem_cons h]
  simp [h]
theorem SortA.ins {ky : α → Int} {S : List α} (h : SortA ky S) {j : Nat} {x : α} (h1 : ∀ b ∈ S.drop j, ky x < ky b) (h2 : ∀ b ∈ S.take j, ky b ≤ ky x) : SortA ky (S.take j ++ x :: S.drop j) := by
  unfold SortA at *
  have hs : (S.take j ++ S.drop j).Pairwise fun a b => ky a ≤ ky b := by rw [List.take_append_drop]; exact h
  rw [List.pairwise_append] at hs ⊢
  refine ⟨hs.1, List.pairwise_cons.2 ⟨fun b hb => by have := h1 b hb; omega, hs.2.1⟩, fun a ha b hb => ?_⟩
  rcases List.mem_cons.1 hb with rfl | hb
  · exact h2 a ha
  · exact hs.2.2 a ha b hb
theorem SortA.below (d : α) {ky : α → Int} {S : List α} (h : SortA ky S) {j : Nat} (hj : j < S.length) : ∀ b ∈ S.take (j + 1), ky b ≤ ky (S.getD j d) := by
  intro b hb
  unfold SortA at h
  obtain ⟨k, hk, rfl⟩ := List.getElem_of_mem hb
  simp only [List.length_take] at hk
  have e1 : S.getD j d = S[j] := by simp [hj]
  rw [List.getElem_take, e1]
  by_cases hkj : k = j
  · subst hkj; exact Int.le_refl _
  · exact List.pairwise_iff_getElem.1 h k j (by omega) hj (by omega)
structure SA (ky : α → Int) (D : List α) (i : Nat) (L : List α) : Prop where
  ex : ∃ S, L = S ++ D.drop i ∧ S.length = i ∧ S.Perm (D.take i) ∧ SortA ky S
theorem getD_mapA {f : α → AV} {l : List α} {i : Nat} (h : i < l.length) (d : AV) (e : α) : (l.map f).getD i d = f (l.getD i e) := by simp [h]
theorem memA (d : α) {D : List α} {k : Nat} (h : k < D.length) : D.getD k d ∈ D := by simp [h]
end
theorem ln_ok (x : Ln) (k : Nat) : (lnA x).ok k := by simp [lnA, AV.ok, okL]
theorem sh_ok (x : Int × Int) (k : Nat) : (prA x).ok k := by simp [prA, AV.ok, okL]
theorem set_ln (L : List Ln) (j : Nat) (z : Ln) : (L.map lnA).set j (.agg [.int z.kind, .int z.room, .int z.fr, .int z.to, .int z.uses]) = (L.set j z).map lnA := by simp [lnA, List.map_set]
theorem set_sh (L : List (Int × Int)) (j : Nat) (z : Int × Int) : (L.map prA).set j (.agg [.int z.1, .int z.2]) = (L.set j z).map prA := by simp [prA, List.map_set]
theorem insort_ln {m : Mem} {e ver : Nat} {g : FuncId} {caps caps' : List AV} {ky : Ln → Int} (hg : Enters Try.prog g) (D : List (Ln)) (n : Nat) (hn : n ≤ D.length) (he : e < m.length) (hv : ∀ x, VwL (m.set e ⟨ver, .row 5 x⟩) caps caps') (hk0 : okL 0 caps')
    (hp : ∀ a ∈ D, ∀ b ∈ D, Pure Try.prog g (lnA a :: lnA b :: caps') (.int (ky a - ky b))) (h20 : D.length ≤ 1000) :
    Go.Vg.Spec Try.prog 94 [.osl e ver 0 n, .int 0, .int n, .clo g caps] (m.set e ⟨ver, .row 5 (D.map lnA)⟩) (fun _ m' => ∃ S, S.length = n ∧ S.Perm (D.take n) ∧ SortA ky S ∧ m' = m.set e ⟨ver, .row 5 ((S ++ D.drop n).map lnA)⟩) := by
  have hss : ∀ x y : Ent, (m.set e x).set e y = m.set e y := fun x y => List.set_set _
  have hge : ∀ x : Ent, (m.set e x)[e]? = some x := fun x => by simp [he]
  by_cases hA : n = 0
  · subst hA
    (refine Spec.of_bodyA Try.func94 rfl (by rw [Try.ntmps94]; simp) ?_; rw [Try.results94, Try.ntmps94]; simp only [entry, zipArgs, Nat.reduceAdd])
    (refine x_go (zc @hss @hge) ?_)
    refine Wp.loop (fun (_ : Nat) => { t := [(2, .int 0), (8, .int 1)], m := m.set e ⟨ver, .row 5 (D.map lnA)⟩, n := 53 }) (fun _ => True) (fun _ => 0) 0 ?_ ?_ ?_
    · (refine Le.of ?_ ?_ rfl rfl <;> (try simp only [push_cast, seval, hss, hge]) <;> (try (with_reducible rfl)))
    · trivial
    · intro _ _
      (refine x_gg (zc @hss @hge) ?_)
      (apply leaveAN; exact rfl; (exact x_ev (zc @hss @hge)); ((exact x_cl (zc @hss @hge))); (try simp only [push_cast, seval, hss, hge]))
      exact ⟨[], rfl, by simp, List.Pairwise.nil, by simp⟩
  · (refine Spec.of_bodyA Try.func94 rfl (by rw [Try.ntmps94]; simp) ?_; rw [Try.results94, Try.ntmps94]; simp only [entry, zipArgs, Nat.reduceAdd])
    (refine x_go (zc @hss @hge) ?_)
    refine Wp.loop (fun (q : Nat × List (Ln)) => { t := [(0, .osl e ver 0 n), (1, .int 0), (2, .int n), (3, .clo g caps), (8, .int q.1)], m := m.set e ⟨ver, .row 5 (q.2.map lnA)⟩, n := 53 }) (fun q => (1 ≤ q.1 ∧ q.1 ≤ n) ∧ SA ky D q.1 q.2) (fun q => n - q.1) (1, D) ?_ ?_ ?_
    · (refine Le.of ?_ ?_ rfl rfl <;> (try simp only [push_cast, seval, hss, hge]) <;> (try (with_reducible rfl)))
      all_goals rfl
    · refine ⟨⟨by simp only; omega, by simp only; omega⟩, ⟨D.take 1, (List.take_append_drop 1 D).symm, by simp; omega, List.Perm.refl _, ?_⟩⟩
      match D with
      | [] => exact List.Pairwise.nil
      | a :: D => exact List.pairwise_singleton _ _
    · rintro ⟨i, L⟩ ⟨⟨hi1, hi2⟩, ⟨S, hL, hSl, hSp, hSs⟩⟩
      simp only at hi1 hi2 hL hSl hSp
      have hn1 : n ≤ 1000 := by omega
      (refine x_go (zc @hss @hge) ?_)
      (apply Wp.cond; (exact x_ev (zc @hss @hge)))
      · intro hc
        simp only [decide_eq_true_eq, Int.ofNat_lt] at hc
        have hLx := insA_top ln0 D S i (by omega) hSl
        have hxD : D.getD i ln0 ∈ D := memA ln0 (by omega)
        have hSD : ∀ b ∈ S, b ∈ D := fun b hb => List.mem_of_mem_take (hSp.mem_iff.1 hb)
        have hpe : (D.getD i ln0 :: S).Perm (D.take (i + 1)) := by
          have e1 : D.take (i + 1) = D.take i ++ [D.getD i ln0] := by rw [List.take_add_one]; simp [show i < D.length by omega]
          rw [e1]
          exact (List.Perm.cons _ hSp).trans (List.perm_append_comm (l₁ := [_]))
        rw [← hL] at hLx
        subst hLx
        have hRl : (D.drop (i + 1)).length = D.length - (i + 1) := by simp
        generalize hR : D.drop (i + 1) = R at hRl hL
        generalize hx : D.getD i ln0 = x at hxD hpe hL
        have hRD : ∀ b ∈ R, b ∈ D := fun b hb => List.mem_of_mem_drop (by rw [hR]; exact hb)
        have hmL : ∀ j, j ≤ i → ∀ b ∈ insA S j x R, b ∈ D := by
          intro j _ b hb
          unfold insA at hb
          rcases List.mem_append.1 hb with h | h
          · exact hSD b (List.mem_of_mem_take h)
          · rcases List.mem_cons.1 h with rfl | h
            · exact hxD
            · rcases List.mem_append.1 h with h | h
              · exact hSD b (List.mem_of_mem_drop h)
              · exact hRD b h
        (refine x_go (zc @hss @hge) ?_)
        refine Wp.loop (fun (j : Nat) => { t := [(0, .osl e ver 0 n), (1, .int 0), (2, .int n), (3, .clo g caps), (8, .int i), (9, .int j)], m := m.set e ⟨ver, .row 5 ((insA S j x R).map lnA)⟩, n := 53 }) (fun j => j ≤ i ∧ ∀ b ∈ S.drop j, ky x < ky b) (fun j => j) i ?_ ?_ ?_
        · (refine Le.of ?_ ?_ rfl rfl <;> (try simp only [push_cast, seval, hss, hge]) <;> (try (with_reducible rfl)))
          all_goals rfl
        · exact ⟨Nat.le_refl _, by rw [List.drop_of_length_le (by omega)]; intro b hb; cases hb⟩
        · rintro j ⟨hj1, hj2⟩
          have hLl := insA_len S j x R (by omega)
          have hLj := insA_at ln0 S j x R (by omega)
          have hLD : (insA S j x R).getD (j - 1) ln0 ∈ D := hmL j hj1 _ (memA ln0 (by omega))
          have hLy : 0 < j → (insA S j x R).getD (j - 1) ln0 = S.getD (j - 1) ln0 := fun h => by
            have := insA_lo ln0 S (j - 1) x R (by omega)
            rwa [show j - 1 + 1 = j by omega] at this
          have hLs : 0 < j → ((insA S j x R).set j (S.getD (j - 1) ln0)).set (j - 1) x = insA S (j - 1) x R := fun h => by
            have := insA_swap ln0 S (j - 1) x R (by omega)
            rwa [show j - 1 + 1 = j by omega] at this
          have hLe : insA S j x R = (S.take j ++ x :: S.drop j) ++ R := by simp [insA]
          generalize hLg : insA S j x R = L at hLl hLj hLD hLy hLs hLe
          generalize hy : L.getD (j - 1) ln0 = y at hLD hLy
          have hLn : L.length = D.length := by omega
          have hvr := hv ((L.map lnA))
          have hgj : ∀ d, (L.map lnA).getD j d = lnA x := fun d => by
            rw [← hLj]; simp [show j < L.length by omega]
          have hgy : ∀ d, (L.map lnA).getD (j - 1) d = lnA y := fun d => by
            rw [← hy]; simp [show j - 1 < L.length by omega]
          (refine x_go (zc @hss (zc @hge (zc @hgj (zc @hgy (zc @lnA.eq_1 (zc @hLn @set_ln)))))) ?_)
          (refine Wp.rnD 17 ?_; apply exAb; (((refine x_abn (zc @hss (zc @hge (zc @hgj (zc @hgy (zc @lnA.eq_1 (zc @hLn @set_ln)))))) ?_); (apply Abn.pureW; (exact x_ev (zc @hss (zc @hge (zc @hgj (zc @hgy (zc @lnA.eq_1 (zc @hLn @set_ln))))))); (exact hg); (exact fun _ => hp x hxD y hLD); (exact VwL.cons (Vw.self (ln_ok x 0)) (VwL.cons (Vw.self (ln_ok y 0)) hvr)); (simp only [push_cast, seval, hss, hge, hgj, hgy, lnA, hLn, set_ln] <;> first | trivial | assumption | (refine ⟨?_, ?_⟩ <;> assumption) | (simp; done)); (try dsimp only [putA, optG])); (refine x_abn (zc @hss (zc @hge (zc @hgj (zc @hgy (zc @lnA.eq_1 (zc @hLn @set_ln)))))) ?_)); exact Abn.nil))
          (refine x_go (zc @hss (zc @hge (zc @hgj (zc @hgy (zc @lnA.eq_1 (zc @hLn @set_ln)))))) ?_)
          (apply Wp.cond; (exact x_ev (zc @hss (zc @hge (zc @hgj (zc @hgy (zc @lnA.eq_1 (zc @hLn @set_ln))))))))
          · intro h4
            simp only [Bool.and_eq_true, decide_eq_true_eq] at h4
            have hj0 : 0 < j := by omega
            have hys := hLy hj0
            have hst := hLs hj0
            rw [← hys] at hst
            have hgs : ∀ d, ((L.set j y).map lnA).getD (j - 1) d = lnA y := fun d => by
              rw [getD_mapA (by rw [List.length_set]; omega) d ln0, List.getD_eq_getElem?_getD, List.getElem?_set_ne (by omega), ← List.getD_eq_getElem?_getD, hy]
            (refine x_go (zc @hss (zc @hge (zc @hgj (zc @hgy (zc @lnA.eq_1 (zc @hLn (zc @set_ln @hgs))))))) ?_)
            (apply Wp.runW 15 17 (fun _ => m.set e ⟨ver, .row 5 ((L.set j y).map lnA)⟩) mixed; (dsimp only [List.map] <;> exact rfl); exact rfl; kernel_rfl; kernel_rfl; (dsimp only; ((repeat (refine x_wn (zc @hss (zc @hge (zc @hgj (zc @hgy (zc @lnA.eq_1 (zc @hLn (zc @set_ln @hgs))))))) ?_)); (refine x_we (zc @hss (zc @hge (zc @hgj (zc @hgy (zc @lnA.eq_1 (zc @hLn (zc @set_ln @hgs))))))) ?_); (repeat (refine x_wn (zc @hss (zc @hge (zc @hgj (zc @hgy (zc @lnA.eq_1 (zc @hLn (zc @set_ln @hgs))))))) ?_)); (refine x_w1 (zc @hss (zc @hge (zc @hgj (zc @hgy (zc @lnA.eq_1 (zc @hLn (zc @set_ln @hgs))))))) ?_); (refine x_wn (zc @hss (zc @hge (zc @hgj (zc @hgy (zc @lnA.eq_1 (zc @hLn (zc @set_ln @hgs))))))) ?_); (refine x_w2 (zc @hss (zc @hge (zc @hgj (zc @hgy (zc @lnA.eq_1 (zc @hLn (zc @set_ln @hgs))))))) ?_)); exact AbW.nil))
            (refine x_go (zc @hss (zc @hge (zc @hgj (zc @hgy (zc @lnA.eq_1 (zc @hLn (zc @set_ln @hgs))))))) ?_)
            refine ⟨j - 1, ?_, ⟨by omega, ?_⟩, by omega⟩
            · rw [← hst]
              (refine Le.of ?_ ?_ rfl rfl <;> (try simp only [push_cast, seval, hss, hge, hgj, hgy, lnA, hLn, set_ln, hgs]) <;> (try (with_reducible rfl)))
              all_goals (try (congr 2; omega))
            · intro b hb
              rw [List.drop_eq_getElem_cons (by omega)] at hb
              rcases List.mem_cons.1 hb with rfl | hb
              · have e1 : y = S[j - 1]'(by omega) := hys.trans (by simp [show j - 1 < S.length by omega])
                have e2 := congrArg ky e1
                omega
              · rw [show j - 1 + 1 = j by omega] at hb; exact hj2 b hb
          · intro h4
            simp only [Bool.and_eq_false_iff, decide_eq_false_iff_not] at h4
            (refine x_go (zc @hss (zc @hge (zc @hgj (zc @hgy (zc @lnA.eq_1 (zc @hLn @set_ln)))))) ?_)
            refine ⟨(i + 1, L), ?_, ⟨⟨by simp only; omega, by simp only; omega⟩, ⟨S.take j ++ x :: S.drop j, ?_, ?_, ?_, ?_⟩⟩, by simp only; omega⟩
            · (refine Le.of ?_ ?_ rfl rfl <;> (try simp only [push_cast, seval, hss, hge, hgj, hgy, lnA, hLn, set_ln]) <;> (try (with_reducible rfl)))
            · simp only; rw [hLe, hR]
            · simp; omega
            · refine List.Perm.trans ?_ hpe
              refine (List.perm_middle).trans ?_
              rw [List.take_append_drop]
            · refine SortA.ins hSs hj2 fun b hb => ?_
              rcases Nat.eq_zero_or_pos j with h0 | h0
              · subst h0; simp at hb
              · have h5 := SortA.below ln0 hSs (j := j - 1) (by omega) b (by rw [show j - 1 + 1 = j by omega]; exact hb)
                rw [← hLy h0] at h5
                omega
      · intro hc
        simp only [decide_eq_false_iff_not, Int.ofNat_lt] at hc
        (refine x_go (zc @hss @hge) ?_)
        (apply leaveAN; exact rfl; (exact x_ev (zc @hss @hge)); ((exact x_cl (zc @hss @hge))); (try simp only [push_cast, seval, hss, hge]))
        have hie : i = n := by omega
        subst hie
        exact ⟨S, hSl, hSp, hSs, by rw [hL]⟩
theorem insort_sh {m : Mem} {e ver : Nat} {g : FuncId} {caps caps' : List AV} {ky : Int × Int → Int} (hg : Enters Try.prog g) (D : List (Int × Int)) (n : Nat) (hn : n ≤ D.length) (he : e < m.length) (hv : ∀ x, VwL (m.set e ⟨ver, .row 2 x⟩) caps caps') (hk0 : okL 0 caps')
    (hp : ∀ a ∈ D, ∀ b ∈ D, Pure Try.prog g (prA a :: prA b :: caps') (.int (ky a - ky b))) (h20 : D.length ≤ 1000) :
    Go.Vg.Spec Try.prog 99 [.osl e ver 0 n, .int 0, .int n, .clo g caps] (m.set e ⟨ver, .row 2 (D.map prA)⟩) (fun _ m' => ∃ S, S.length = n ∧ S.Perm (D.take n) ∧ SortA ky S ∧ m' = m.set e ⟨ver, .row 2 ((S ++ D.drop n).map prA)⟩) := by
  have hss : ∀ x y : Ent, (m.set e x).set e y = m.set e y := fun x y => List.set_set _
  have hge : ∀ x : Ent, (m.set e x)[e]? = some x := fun x => by simp [he]
  by_cases hA : n = 0
  · subst hA
    (refine Spec.of_bodyA Try.func99 rfl (by rw [Try.ntmps99]; simp) ?_; rw [Try.results99, Try.ntmps99]; simp only [entry, zipArgs, Nat.reduceAdd])
    (refine x_go (zc @hss @hge) ?_)
    refine Wp.loop (fun (_ : Nat) => { t := [(2, .int 0), (8, .int 1)], m := m.set e ⟨ver, .row 2 (D.map prA)⟩, n := 53 }) (fun _ => True) (fun _ => 0) 0 ?_ ?_ ?_
    · (refine Le.of ?_ ?_ rfl rfl <;> (try simp only [push_cast, seval, hss, hge]) <;> (try (with_reducible rfl)))
    · trivial
    · intro _ _
      (refine x_gg (zc @hss @hge) ?_)
      (apply leaveAN; exact rfl; (exact x_ev (zc @hss @hge)); ((exact x_cl (zc @hss @hge))); (try simp only [push_cast, seval, hss, hge]))
      exact ⟨[], rfl, by simp, List.Pairwise.nil, by simp⟩
  · (refine Spec.of_bodyA Try.func99 rfl (by rw [Try.ntmps99]; simp) ?_; rw [Try.results99, Try.ntmps99]; simp only [entry, zipArgs, Nat.reduceAdd])
    (refine x_go (zc @hss @hge) ?_)
    refine Wp.loop (fun (q : Nat × List (Int × Int)) => { t := [(0, .osl e ver 0 n), (1, .int 0), (2, .int n), (3, .clo g caps), (8, .int q.1)], m := m.set e ⟨ver, .row 2 (q.2.map prA)⟩, n := 53 }) (fun q => (1 ≤ q.1 ∧ q.1 ≤ n) ∧ SA ky D q.1 q.2) (fun q => n - q.1) (1, D) ?_ ?_ ?_
    · (refine Le.of ?_ ?_ rfl rfl <;> (try simp only [push_cast, seval, hss, hge]) <;> (try (with_reducible rfl)))
      all_goals rfl
    · refine ⟨⟨by simp only; omega, by simp only; omega⟩, ⟨D.take 1, (List.take_append_drop 1 D).symm, by simp; omega, List.Perm.refl _, ?_⟩⟩
      match D with
      | [] => exact List.Pairwise.nil
      | a :: D => exact List.pairwise_singleton _ _
    · rintro ⟨i, L⟩ ⟨⟨hi1, hi2⟩, ⟨S, hL, hSl, hSp, hSs⟩⟩
      simp only at hi1 hi2 hL hSl hSp
      have hn1 : n ≤ 1000 := by omega
      (refine x_go (zc @hss @hge) ?_)
      (apply Wp.cond; (exact x_ev (zc @hss @hge)))
      · intro hc
        simp only [decide_eq_true_eq, Int.ofNat_lt] at hc
        have hLx := insA_top (0, 0) D S i (by omega) hSl
        have hxD : D.getD i (0, 0) ∈ D := memA (0, 0) (by omega)
        have hSD : ∀ b ∈ S, b ∈ D := fun b hb => List.mem_of_mem_take (hSp.mem_iff.1 hb)
        have hpe : (D.getD i (0, 0) :: S).Perm (D.take (i + 1)) := by
          have e1 : D.take (i + 1) = D.take i ++ [D.getD i (0, 0)] := by rw [List.take_add_one]; simp [show i < D.length by omega]
          rw [e1]
          exact (List.Perm.cons _ hSp).trans (List.perm_append_comm (l₁ := [_]))
        rw [← hL] at hLx
        subst hLx
        have hRl : (D.drop (i + 1)).length = D.length - (i + 1) := by simp
        generalize hR : D.drop (i + 1) = R at hRl hL
        generalize hx : D.getD i (0, 0) = x at hxD hpe hL
        have hRD : ∀ b ∈ R, b ∈ D := fun b hb => List.mem_of_mem_drop (by rw [hR]; exact hb)
        have hmL : ∀ j, j ≤ i → ∀ b ∈ insA S j x R, b ∈ D := by
          intro j _ b hb
          unfold insA at hb
          rcases List.mem_append.1 hb with h | h
          · exact hSD b (List.mem_of_mem_take h)
          · rcases List.mem_cons.1 h with rfl | h
            · exact hxD
            · rcases List.mem_append.1 h with h | h
              · exact hSD b (List.mem_of_mem_drop h)
              · exact hRD b h
        (refine x_go (zc @hss @hge) ?_)
        refine Wp.loop (fun (j : Nat) => { t := [(0, .osl e ver 0 n), (1, .int 0), (2, .int n), (3, .clo g caps), (8, .int i), (9, .int j)], m := m.set e ⟨ver, .row 2 ((insA S j x R).map prA)⟩, n := 53 }) (fun j => j ≤ i ∧ ∀ b ∈ S.drop j, ky x < ky b) (fun j => j) i ?_ ?_ ?_
        · (refine Le.of ?_ ?_ rfl rfl <;> (try simp only [push_cast, seval, hss, hge]) <;> (try (with_reducible rfl)))
          all_goals rfl
        · exact ⟨Nat.le_refl _, by rw [List.drop_of_length_le (by omega)]; intro b hb; cases hb⟩
        · rintro j ⟨hj1, hj2⟩
          have hLl := insA_len S j x R (by omega)
          have hLj := insA_at (0, 0) S j x R (by omega)
          have hLD : (insA S j x R).getD (j - 1) (0, 0) ∈ D := hmL j hj1 _ (memA (0, 0) (by omega))
          have hLy : 0 < j → (insA S j x R).getD (j - 1) (0, 0) = S.getD (j - 1) (0, 0) := fun h => by
            have := insA_lo (0, 0) S (j - 1) x R (by omega)
            rwa [show j - 1 + 1 = j by omega] at this
          have hLs : 0 < j → ((insA S j x R).set j (S.getD (j - 1) (0, 0))).set (j - 1) x = insA S (j - 1) x R := fun h => by
            have := insA_swap (0, 0) S (j - 1) x R (by omega)
            rwa [show j - 1 + 1 = j by omega] at this
          have hLe : insA S j x R = (S.take j ++ x :: S.drop j) ++ R := by simp [insA]
          generalize hLg : insA S j x R = L at hLl hLj hLD hLy hLs hLe
          generalize hy : L.getD (j - 1) (0, 0) = y at hLD hLy
          have hLn : L.length = D.length := by omega
          have hvr := hv ((L.map prA))
          have hgj : ∀ d, (L.map prA).getD j d = prA x := fun d => by
            rw [← hLj]; simp [show j < L.length by omega]
          have hgy : ∀ d, (L.map prA).getD (j - 1) d = prA y := fun d => by
            rw [← hy]; simp [show j - 1 < L.length by omega]
          (refine x_go (zc @hss (zc @hge (zc @hgj (zc @hgy (zc @prA.eq_1 (zc @hLn @set_sh)))))) ?_)
          (refine Wp.rnD 17 ?_; apply exAb; (((refine x_abn (zc @hss (zc @hge (zc @hgj (zc @hgy (zc @prA.eq_1 (zc @hLn @set_sh)))))) ?_); (apply Abn.pureW; (exact x_ev (zc @hss (zc @hge (zc @hgj (zc @hgy (zc @prA.eq_1 (zc @hLn @set_sh))))))); (exact hg); (exact fun _ => hp x hxD y hLD); (exact VwL.cons (Vw.self (sh_ok x 0)) (VwL.cons (Vw.self (sh_ok y 0)) hvr)); (simp only [push_cast, seval, hss, hge, hgj, hgy, prA, hLn, set_sh] <;> first | trivial | assumption | (refine ⟨?_, ?_⟩ <;> assumption) | (simp; done)); (try dsimp only [putA, optG])); (refine x_abn (zc @hss (zc @hge (zc @hgj (zc @hgy (zc @prA.eq_1 (zc @hLn @set_sh)))))) ?_)); exact Abn.nil))
          (refine x_go (zc @hss (zc @hge (zc @hgj (zc @hgy (zc @prA.eq_1 (zc @hLn @set_sh)))))) ?_)
          (apply Wp.cond; (exact x_ev (zc @hss (zc @hge (zc @hgj (zc @hgy (zc @prA.eq_1 (zc @hLn @set_sh))))))))
          · intro h4
            simp only [Bool.and_eq_true, decide_eq_true_eq] at h4
            have hj0 : 0 < j := by omega
            have hys := hLy hj0
            have hst := hLs hj0
            rw [← hys] at hst
            have hgs : ∀ d, ((L.set j y).map prA).getD (j - 1) d = prA y := fun d => by
              rw [getD_mapA (by rw [List.length_set]; omega) d (0, 0), List.getD_eq_getElem?_getD, List.getElem?_set_ne (by omega), ← List.getD_eq_getElem?_getD, hy]
            (refine x_go (zc @hss (zc @hge (zc @hgj (zc @hgy (zc @prA.eq_1 (zc @hLn (zc @set_sh @hgs))))))) ?_)
            (apply Wp.runW 15 17 (fun _ => m.set e ⟨ver, .row 2 ((L.set j y).map prA)⟩) mixed; (dsimp only [List.map] <;> exact rfl); exact rfl; kernel_rfl; kernel_rfl; (dsimp only; ((repeat (refine x_wn (zc @hss (zc @hge (zc @hgj (zc @hgy (zc @prA.eq_1 (zc @hLn (zc @set_sh @hgs))))))) ?_)); (refine x_we (zc @hss (zc @hge (zc @hgj (zc @hgy (zc @prA.eq_1 (zc @hLn (zc @set_sh @hgs))))))) ?_); (repeat (refine x_wn (zc @hss (zc @hge (zc @hgj (zc @hgy (zc @prA.eq_1 (zc @hLn (zc @set_sh @hgs))))))) ?_)); (refine x_w1 (zc @hss (zc @hge (zc @hgj (zc @hgy (zc @prA.eq_1 (zc @hLn (zc @set_sh @hgs))))))) ?_); (refine x_wn (zc @hss (zc @hge (zc @hgj (zc @hgy (zc @prA.eq_1 (zc @hLn (zc @set_sh @hgs))))))) ?_); (refine x_w2 (zc @hss (zc @hge (zc @hgj (zc @hgy (zc @prA.eq_1 (zc @hLn (zc @set_sh @hgs))))))) ?_)); exact AbW.nil))
            (refine x_go (zc @hss (zc @hge (zc @hgj (zc @hgy (zc @prA.eq_1 (zc @hLn (zc @set_sh @hgs))))))) ?_)
            refine ⟨j - 1, ?_, ⟨by omega, ?_⟩, by omega⟩
            · rw [← hst]
              (refine Le.of ?_ ?_ rfl rfl <;> (try simp only [push_cast, seval, hss, hge, hgj, hgy, prA, hLn, set_sh, hgs]) <;> (try (with_reducible rfl)))
              all_goals (try (congr 2; omega))
            · intro b hb
              rw [List.drop_eq_getElem_cons (by omega)] at hb
              rcases List.mem_cons.1 hb with rfl | hb
              · have e1 : y = S[j - 1]'(by omega) := hys.trans (by simp [show j - 1 < S.length by omega])
                have e2 := congrArg ky e1
                omega
              · rw [show j - 1 + 1 = j by omega] at hb; exact hj2 b hb
          · intro h4
            simp only [Bool.and_eq_false_iff, decide_eq_false_iff_not] at h4
            (refine x_go (zc @hss (zc @hge (zc @hgj (zc @hgy (zc @prA.eq_1 (zc @hLn @set_sh)))))) ?_)
            refine ⟨(i + 1, L), ?_, ⟨⟨by simp only; omega, by simp only; omega⟩, ⟨S.take j ++ x :: S.drop j, ?_, ?_, ?_, ?_⟩⟩, by simp only; omega⟩
            · (refine Le.of ?_ ?_ rfl rfl <;> (try simp only [push_cast, seval, hss, hge, hgj, hgy, prA, hLn, set_sh]) <;> (try (with_reducible rfl)))
            · simp only; rw [hLe, hR]
            · simp; omega
            · refine List.Perm.trans ?_ hpe
              refine (List.perm_middle).trans ?_
              rw [List.take_append_drop]
            · refine SortA.ins hSs hj2 fun b hb => ?_
              rcases Nat.eq_zero_or_pos j with h0 | h0
              · subst h0; simp at hb
              · have h5 := SortA.below (0, 0) hSs (j := j - 1) (by omega) b (by rw [show j - 1 + 1 = j by omega]; exact hb)
                rw [← hLy h0] at h5
                omega
      · intro hc
        simp only [decide_eq_false_iff_not, Int.ofNat_lt] at hc
        (refine x_go (zc @hss @hge) ?_)
        (apply leaveAN; exact rfl; (exact x_ev (zc @hss @hge)); ((exact x_cl (zc @hss @hge))); (try simp only [push_cast, seval, hss, hge]))
        have hie : i = n := by omega
        subst hie
        exact ⟨S, hSl, hSp, hSs, by rw [hL]⟩
end Go.Proofs.Try
namespace Go.Proofs.Try
open Go.Vg
theorem named : Named Try.prog 130 := namedB_ok (by kernel_rfl)
theorem works_run : xF Try.prog 130 (xC Try.prog 130 100000) 16 [] [] = some (.bool true, []) := by kernel_rfl
theorem works_pure : Pure Try.prog 16 [] (.bool true) := xF_spec named mixed works_run
end Go.Proofs.Try
set_option maxHeartbeats 8000000
set_option maxRecDepth 20000
namespace Go.Proofs.Try
open Go.Vg

/-! the sorting of loans and of shelves -/
theorem blen_pure (n : Nat) (h : n ≤ 8) : ∃ b : Int, Pure Try.prog 97 [.val (.int .u64 (n : Int))] (.int b) := by
  match n, h with
  | 0, _ => exact ⟨0, xFz_pure named mixed (by kernel_rfl)⟩
  | 1, _ => exact ⟨1, xFz_pure named mixed (by kernel_rfl)⟩
  | 2, _ => exact ⟨2, xFz_pure named mixed (by kernel_rfl)⟩
  | 3, _ => exact ⟨2, xFz_pure named mixed (by kernel_rfl)⟩
  | 4, _ => exact ⟨3, xFz_pure named mixed (by kernel_rfl)⟩
  | 5, _ => exact ⟨3, xFz_pure named mixed (by kernel_rfl)⟩
  | 6, _ => exact ⟨3, xFz_pure named mixed (by kernel_rfl)⟩
  | 7, _ => exact ⟨3, xFz_pure named mixed (by kernel_rfl)⟩
  | 8, _ => exact ⟨4, xFz_pure named mixed (by kernel_rfl)⟩
  | n + 9, h => omega
theorem cmpLn_pure (a b : Ln) (ha : 0 ≤ a.fr ∧ a.fr ≤ 1440) (hb : 0 ≤ b.fr ∧ b.fr ≤ 1440) : Pure Try.prog 79 [lnA a, lnA b] (.int (a.fr - b.fr)) := by
  (refine Spec.bd 0 Try.func79 Try.results79 Try.ntmps79 ?_; simp only [entry, zipArgs, Nat.reduceAdd])
  (refine w_go ?_)
  (first | exact w_ret | refine w_retZ ?_)
def kySh (p : Int × Int) : Int := p.1 * 200 + p.2
def ShB (p : Int × Int) : Prop := (0 ≤ p.1 ∧ p.1 ≤ 1440) ∧ 0 ≤ p.2 ∧ p.2 ≤ 200
theorem cmpSh_pure (a b : Int × Int) (ha : ShB a) (hb : ShB b) : Pure Try.prog 91 [prA a, prA b] (.int (kySh a - kySh b)) := by
  obtain ⟨h1, h2⟩ := ha
  obtain ⟨h3, h4⟩ := hb
  obtain ⟨a1, a2⟩ := a
  obtain ⟨b1, b2⟩ := b
  simp only at h1 h2 h3 h4
  rw [show kySh (a1, a2) - kySh (b1, b2) = (a1 - b1) * 2 * 100 + a2 - b2 by simp only [kySh]; omega]
  (refine Spec.bd 0 Try.func91 Try.results91 Try.ntmps91 ?_; simp only [entry, zipArgs, Nat.reduceAdd])
  (refine x_go @prA.eq_1 ?_)
  (first | exact x_ret @prA.eq_1 | refine x_retZ @prA.eq_1 ?_)
theorem sortSh_spec {m : Mem} {e ver : Nat} {g : FuncId} {caps caps' : List AV} {ky : Int × Int → Int} (hg : Enters Try.prog g) (D : List (Int × Int)) (n : Nat) (hn : n ≤ D.length) (hn8 : n ≤ 8) (he : e < m.length) (hv : ∀ x, VwL (m.set e ⟨ver, .row 2 x⟩) caps caps') (hk0 : okL 0 caps')
    (hp : ∀ a ∈ D, ∀ b ∈ D, Pure Try.prog g (prA a :: prA b :: caps') (.int (ky a - ky b))) (h20 : D.length ≤ 1000) :
    Go.Vg.Spec Try.prog 90 [.osl e ver 0 n, .clo g caps] (m.set e ⟨ver, .row 2 (D.map prA)⟩) (fun _ m' => ∃ S, S.length = n ∧ S.Perm (D.take n) ∧ SortA ky S ∧ m' = m.set e ⟨ver, .row 2 ((S ++ D.drop n).map prA)⟩) := by
  have hss : ∀ x y : Ent, (m.set e x).set e y = m.set e y := fun x y => List.set_set _
  have hge : ∀ x : Ent, (m.set e x)[e]? = some x := fun x => by simp [he]
  have hc1 := insort_sh (ver := ver) hg D n hn he hv hk0 hp h20
  obtain ⟨b, hb⟩ := blen_pure n hn8
  have hwr : IntKind.u64.wrap (n : Int) = n := by simp [IntKind.wrap, IntKind.bits, IntKind.signed]; omega
  have e12 : decide ((n : Int) ≤ 12) = true := decide_eq_true (by omega)
  have hc2 : Go.Vg.Spec Try.prog 96 [.osl e ver 0 n, .int 0, .int n, .int b, .clo g caps] (m.set e ⟨ver, .row 2 (D.map prA)⟩) (fun _ m' => ∃ S, S.length = n ∧ S.Perm (D.take n) ∧ SortA ky S ∧ m' = m.set e ⟨ver, .row 2 ((S ++ D.drop n).map prA)⟩) := by
    (refine Spec.of_bodyA Try.func96 rfl (by rw [Try.ntmps96]; simp) ?_; rw [Try.results96, Try.ntmps96]; simp only [entry, zipArgs, Nat.reduceAdd])
    (refine x_go (zc @hss (zc @hge (zc @Int.sub_zero @e12))) ?_)
    refine Wp.loop (fun (_ : Nat) => { t := [(0, .osl e ver 0 n), (1, .int 0), (2, .int n), (3, .int b), (4, .clo g caps), (10, .bool true), (11, .bool true)], m := m.set e ⟨ver, .row 2 (D.map prA)⟩, n := 148 }) (fun _ => True) (fun _ => 0) 0 ?_ ?_ ?_
    · (refine Le.of ?_ ?_ rfl rfl <;> (try simp only [push_cast, seval, hss, hge, Int.sub_zero, e12]) <;> (try (with_reducible rfl)))
      all_goals rfl
    · trivial
    · intro _ _
      (refine x_gg (zc @hss (zc @hge (zc @Int.sub_zero @e12))) ?_)
      apply Run.spec (he := Enters.of Try.func99 rfl rfl) (hc := hc1)
      · exact rfl
      · exact rfl
      · (exact x_ev (zc @hss (zc @hge (zc @Int.sub_zero @e12))))
      · rintro _ _ ⟨Z, h1, h2, h3, rfl⟩
        dsimp only [S.put, optG]
        apply Run.nil
        (first | exact x_retA (zc @hss (zc @hge (zc @Int.sub_zero @e12))) | refine x_retAZ (zc @hss (zc @hge (zc @Int.sub_zero @e12))) ?_)
        exact ⟨Z, h1, h2, h3, rfl⟩
  (refine Spec.of_bodyA Try.func90 rfl (by rw [Try.ntmps90]; simp) ?_; rw [Try.results90, Try.ntmps90]; simp only [entry, zipArgs, Nat.reduceAdd])
  (refine x_go (zc @hss (zc @hge @hwr)) ?_)
  (apply Run.pureP; (exact x_ev (zc @hss (zc @hge @hwr))); (exact (Enters.of Try.func97 rfl rfl)); (exact hb); (exact x_al (zc @hss (zc @hge @hwr))); (try dsimp only [putA, optG]))
  (refine x_go (zc @hss (zc @hge @hwr)) ?_)
  apply Run.spec (he := Enters.of Try.func96 rfl rfl) (hc := hc2)
  · exact rfl
  · exact rfl
  · (exact x_ev (zc @hss (zc @hge @hwr)))
  · rintro _ _ ⟨Z, h1, h2, h3, rfl⟩
    dsimp only [S.put, optG]
    apply Run.nil
    (apply leaveAN; exact rfl; (exact x_ev (zc @hss (zc @hge @hwr))); ((exact x_cl (zc @hss (zc @hge @hwr)))); (try simp only [push_cast, seval, hss, hge, hwr]))
    exact ⟨Z, h1, h2, h3, rfl⟩
theorem stableLn_spec {m : Mem} {e ver : Nat} {g : FuncId} {caps caps' : List AV} {ky : Ln → Int} (hg : Enters Try.prog g) (D : List Ln) (he : e < m.length) (hv : ∀ x, VwL (m.set e ⟨ver, .row 5 x⟩) caps caps') (hk0 : okL 0 caps')
    (hp : ∀ a ∈ D, ∀ b ∈ D, Pure Try.prog g (lnA a :: lnA b :: caps') (.int (ky a - ky b))) (h20 : D.length ≤ 12) :
    Go.Vg.Spec Try.prog 78 [.osl e ver 0 D.length, .clo g caps] (m.set e ⟨ver, .row 5 (D.map lnA)⟩) (fun _ m' => ∃ S, S.length = D.length ∧ S.Perm D ∧ SortA ky S ∧ m' = m.set e ⟨ver, .row 5 (S.map lnA)⟩) := by
  have hss : ∀ x y : Ent, (m.set e x).set e y = m.set e y := fun x y => List.set_set _
  have hge : ∀ x : Ent, (m.set e x)[e]? = some x := fun x => by simp [he]
  have hc1 := insort_ln (ver := ver) hg D D.length (Nat.le_refl _) he hv hk0 hp (by omega)
  rw [List.take_length, List.drop_length] at hc1
  simp only [List.append_nil] at hc1
  have hno : decide ((20 : Int) ≤ (D.length : Int)) = false := decide_eq_false (by omega)
  have hno2 : decide ((20 : Int) < (D.length : Int)) = false := decide_eq_false (by omega)
  have hc2 : Go.Vg.Spec Try.prog 89 [.osl e ver 0 D.length, .int D.length, .clo g caps] (m.set e ⟨ver, .row 5 (D.map lnA)⟩) (fun _ m' => ∃ S, S.length = D.length ∧ S.Perm D ∧ SortA ky S ∧ m' = m.set e ⟨ver, .row 5 (S.map lnA)⟩) := by
    (refine Spec.of_bodyA Try.func89 rfl (by rw [Try.ntmps89]; simp) ?_; rw [Try.results89, Try.ntmps89]; simp only [entry, zipArgs, Nat.reduceAdd])
    (refine x_go (zc @hss (zc @hge (zc @hno @hno2))) ?_)
    refine Wp.loop (fun (_ : Nat) => { t := [(0, .osl e ver 0 D.length), (1, .int D.length), (2, .clo g caps), (6, .int 20), (7, .int 0), (8, .int 20)], m := m.set e ⟨ver, .row 5 (D.map lnA)⟩, n := 63 }) (fun _ => True) (fun _ => 0) 0 ?_ ?_ ?_
    · (refine Le.of ?_ ?_ rfl rfl <;> (try simp only [push_cast, seval, hss, hge, hno, hno2]) <;> (try (with_reducible rfl)))
      all_goals rfl
    · trivial
    · intro _ _
      (refine x_gg (zc @hss (zc @hge (zc @hno @hno2))) ?_)
      apply Run.spec (he := Enters.of Try.func94 rfl rfl) (hc := hc1)
      · exact rfl
      · exact rfl
      · (exact x_ev (zc @hss (zc @hge (zc @hno @hno2))))
      · rintro _ _ ⟨Z, h1, h2, h3, rfl⟩
        dsimp only [S.put, optG]
        (refine x_gg (zc @hss (zc @hge (zc @hno @hno2))) ?_)
        refine Wp.loop (fun (_ : Nat) => { t := [(1, .int D.length), (6, .int 20)], m := m.set e ⟨ver, .row 5 (Z.map lnA)⟩, n := 63 }) (fun _ => True) (fun _ => 0) 0 ?_ ?_ ?_
        · (refine Le.of ?_ ?_ rfl rfl <;> (try simp only [push_cast, seval, hss, hge, hno, hno2]) <;> (try (with_reducible rfl)))
        · trivial
        · intro _ _
          (refine x_gg (zc @hss (zc @hge (zc @hno @hno2))) ?_)
          (apply leaveAN; exact rfl; (exact x_ev (zc @hss (zc @hge (zc @hno @hno2)))); ((exact x_cl (zc @hss (zc @hge (zc @hno @hno2))))); (try simp only [push_cast, seval, hss, hge, hno, hno2]))
          exact ⟨Z, h1, h2, h3, rfl⟩
  (refine Spec.of_bodyA Try.func78 rfl (by rw [Try.ntmps78]; simp) ?_; rw [Try.results78, Try.ntmps78]; simp only [entry, zipArgs, Nat.reduceAdd])
  (refine x_go (zc @hss @hge) ?_)
  apply Run.spec (he := Enters.of Try.func89 rfl rfl) (hc := hc2)
  · exact rfl
  · exact rfl
  · (exact x_ev (zc @hss @hge))
  · rintro _ _ ⟨Z, h1, h2, h3, rfl⟩
    dsimp only [S.put, optG]
    apply Run.nil
    (apply leaveAN; exact rfl; (exact x_ev (zc @hss @hge)); ((exact x_cl (zc @hss @hge))); (try simp only [push_cast, seval, hss, hge]))
    exact ⟨Z, h1, h2, h3, rfl⟩
end Go.Proofs.Try
set_option maxHeartbeats 8000000
namespace Go.Proofs.Try
open Go.Vg

/-! a bench in memory -/
def lentR (N : Nat) : Nat → List (Nat × List Int) → List AV
  | _, [] => []
  | j, t :: T => .osl (N + j) t.1 0 t.2.length :: lentR N (j + 1) T
def lentE (t : Nat × List Int) : Ent := ⟨t.1, .row 1 (t.2.map AV.int)⟩
abbrev benR (N : Nat) (ks : List St) (ls : List Ln) (life : Int) (L : List Int) (vi : Nat) (I W : List Int) (T : List (Nat × List Int)) : AV :=
  .agg [.lst 2 (ks.map stA), .lst 5 (ls.map lnA), .int life, .osl (N + 5) L.length 0 L.length, .osl (N + 6) vi 0 I.length, .osl (N + 1) 1 0 W.length, .osl (N + 2) 1 0 T.length]
abbrev blk (N : Nat) (ks : List St) (ls : List Ln) (e0 e4 : Ent) (life : Int) (L : List Int) (vi : Nat) (I W : List Int) (T : List (Nat × List Int)) (G : Mem) : Mem :=
  e0 :: ⟨1, .row 1 (W.map AV.int)⟩ :: ⟨1, .row 1 (lentR N 7 T)⟩ :: ⟨1, .row 7 [benR N ks ls life L vi I W T]⟩ :: e4 :: ⟨L.length, .row 1 (L.map AV.int)⟩ :: ⟨vi, .row 1 (I.map AV.int)⟩ :: (T.map lentE ++ G)
theorem lentR_len (N : Nat) : ∀ (T : List (Nat × List Int)) (j : Nat), (lentR N j T).length = T.length
  | [], _ => rfl
  | _ :: T, j => by simp [lentR, lentR_len N T]
theorem adR_lent (n : Nat) : ∀ (m j a b : Nat), a ≤ n + j → n + j + m ≤ b → AdR a b (List.replicate m .emp) (lentR n j (List.replicate m (0, [])))
  | 0, _, _, _, _, _ => trivial
  | m + 1, j, a, b, h1, h2 => by
    rw [List.replicate_succ, List.replicate_succ]
    exact ⟨.inl (.inr ⟨rfl, n + j, h1, by omega, rfl⟩), adR_lent n m (j + 1) a b (by omega) (by omega)⟩
def loanP (ls : List Ln) (kind : Int) (k : Nat) : List Int := ((List.range k).filter fun i => decide ((ls.getD i ln0).kind = kind)).map fun i : Nat => (i : Int)
theorem loanP_succ (ls : List Ln) (kind : Int) (k : Nat) : loanP ls kind (k + 1) = if decide ((ls.getD k ln0).kind = kind) = true then loanP ls kind k ++ [(k : Int)] else loanP ls kind k := by
  unfold loanP; rw [List.range_succ, List.filter_append, List.map_append]
  by_cases h : decide ((ls.getD k ln0).kind = kind) = true
  · rw [if_pos h, List.filter_cons, if_pos h]; rfl
  · rw [if_neg h, List.filter_cons, if_neg h]; simp
theorem loanP_len (ls : List Ln) (kind : Int) (k : Nat) : (loanP ls kind k).length ≤ k := by
  unfold loanP; rw [List.length_map]; refine Nat.le_trans (List.length_filter_le _ _) ?_; simp
theorem lentE_rep (n : Nat) : (List.replicate n (0, ([] : List Int))).map lentE = List.replicate n (⟨0, .row 1 []⟩ : Ent) := by
  rw [List.map_replicate]; rfl
def T0 (n : Nat) : List (Nat × List Int) := List.replicate n (0, [])
theorem newBench_spec {ks : List St} {ls : List Ln} (hv : SV ks ls) (kind items : Int) (hk : 0 ≤ kind ∧ kind < ks.length) (hi : 0 ≤ items ∧ items ≤ 100) :
    Go.Vg.Spec Try.prog 67 [storA ks ls, .int kind, .int items] [] (fun x m' => x = .optr 3 1 0 0 ∧ ∃ e4, m' = blk 0 ks ls ⟨0, .row 2 [storA ks ls]⟩ e4 (ks.getD kind.toNat st0).life (loanP ls kind ls.length) 0 [] (List.replicate items.toNat 0) (T0 items.toNat) []) := by
  have hs := hv.st kind.toNat (by omega)
  have hl20 := hv.l20
  generalize hy : ks.getD kind.toNat st0 = y at hs
  (refine Spec.of_bodyA Try.func67 rfl (by rw [Try.ntmps67]; simp) ?_; rw [Try.results67, Try.ntmps67]; simp only [entry, zipArgs, Nat.reduceAdd])
  (refine x_go @hy ?_)
  (apply Wp.runV mixed; (dsimp only [List.map] <;> exact rfl); exact rfl; kernel_rfl; (dsimp only; (repeat (first | (apply AbsV.alc; exact rfl; (exact x_ev @hy); ((try simp only [push_cast, seval, hy]) <;> exact sT); dsimp only [upd, alcV, List.length_cons, List.length_nil, Nat.reduceAdd]) | (apply AbsV.cons; exact rfl; exact rfl; (exact x_ev @hy); ((try simp only [push_cast, seval, hy]) <;> exact sT); dsimp only [upd]))); exact AbsV.nil); dsimp only [List.map, List.cons_append, List.nil_append])
  (refine x_go @hy ?_)
  (refine Wp.vacs 1 ?_; (try simp only [List.replicate_succ, List.replicate_zero, List.cons_append, List.nil_append]))
  refine Wp.adoptRow 3 2 (l' := [benR 0 ks ls y.life [] 0 [] (List.replicate items.toNat 0) (T0 items.toNat)]) rfl ⟨.inr ⟨_, _, rfl, rfl, .inl (.inl rfl), .inl (.inl rfl), .inl (.inl rfl), .inl (.inr ⟨rfl, 5, by simp, by simp, rfl⟩), .inl (.inr ⟨rfl, 6, by simp, by simp, rfl⟩), .inl (.inl (by simp)), .inl (.inl (by simp [T0])), trivial⟩, trivial⟩ ?_
  simp only [List.set_cons_succ, List.set_cons_zero, List.replicate_succ, List.replicate_zero, List.cons_append, List.nil_append]
  refine Wp.adoptRow 2 items.toNat (l' := lentR 0 7 (T0 items.toNat)) rfl (adR_lent 0 _ _ _ _ (by simp) (by simp)) ?_
  simp only [List.set_cons_succ, List.set_cons_zero, List.cons_append, List.nil_append]
  rw [← lentE_rep, show List.replicate items.toNat (0, ([] : List Int)) = T0 items.toNat from rfl]
  generalize hB : (T0 items.toNat).map lentE = B
  refine Wp.loop (fun (q : Nat × Nat × Kind) => { t := [(1, .int kind), (3, .optr 0 0 0 0), (7, .optr 3 1 0 0), (24, .lst 5 (ls.map lnA)), (25, .int ls.length), (26, .int q.1)], m := ⟨0, .row 2 [storA ks ls]⟩ :: ⟨1, .row 1 ((List.replicate items.toNat 0).map AV.int)⟩ :: ⟨1, .row 1 (lentR 0 7 (T0 items.toNat))⟩ :: ⟨1, .row 7 [benR 0 ks ls y.life (loanP ls kind q.1) 0 [] (List.replicate items.toNat 0) (T0 items.toNat)]⟩ :: ⟨q.2.1, q.2.2⟩ :: ⟨(loanP ls kind q.1).length, .row 1 ((loanP ls kind q.1).map AV.int)⟩ :: ⟨0, .row 1 []⟩ :: B, n := 47 }) (fun q => q.1 ≤ ls.length) (fun q => ls.length - q.1) (0, 0, .row 1 []) ?_ ?_ ?_
  · (refine Le.of ?_ ?_ rfl rfl <;> (try simp only [push_cast, seval, hy]) <;> (try (with_reducible rfl)))
    rfl
  · simp
  · rintro ⟨k, v, kd⟩ hk1
    simp only at hk1
    have hol := loanP_len ls kind k
    have hos := loanP_succ ls kind k
    generalize hout : loanP ls kind k = out at hol hos
    (refine x_gs @hy ?_)
    (apply Wp.cond; (exact x_ev @hy))
    · (intro hc; first | replace hc := bT hc | skip)
      generalize hx : ls.getD k ln0 = x at hos
      (refine x_gs (zc @hy @hx) ?_)
      (apply Run.alcAt 4; (exact x_ev (zc @hy @hx)); ((try simp only [push_cast, seval, hy, hx]) <;> exact sT); exact rfl; (try simp only [push_cast, seval, hy, hx]))
      (refine x_go (zc @hy @hx) ?_)
      (apply Wp.cond; (exact x_ev (zc @hy @hx)))
      · intro h2
        rw [if_pos h2] at hos
        (refine x_go (zc @hy @hx) ?_)
        refine ⟨(k + 1, v + 1, .row 5 [lnA x]), ?_, by simp only; omega, by simp only; omega⟩
        simp only
        rw [hos, List.length_append]
        (refine Le.of ?_ ?_ rfl rfl <;> (try simp only [push_cast, seval, hy, hx]) <;> (try (with_reducible rfl)))
        simp [T0]
      · intro h2
        rw [if_neg (by rw [h2]; simp)] at hos
        (refine x_go (zc @hy @hx) ?_)
        refine ⟨(k + 1, v + 1, .row 5 [lnA x]), ?_, by simp only; omega, by simp only; omega⟩
        simp only
        rw [hos]
        (refine Le.of ?_ ?_ rfl rfl <;> (try simp only [push_cast, seval, hy, hx]) <;> (try (with_reducible rfl)))
    · (intro hc; first | replace hc := bT hc | skip)
      obtain rfl : k = ls.length := by omega
      (refine x_go @hy ?_)
      (first | exact x_retA @hy | refine x_retAZ @hy ?_)
      refine ⟨⟨v, kd⟩, ?_⟩
      simp only [blk, benR, hB, hout, List.append_nil]; rfl
end Go.Proofs.Try
set_option maxHeartbeats 8000000
namespace Go.Proofs.Try
open Go.Vg

/-! whether an item fits -/
abbrev benF (ks : List St) (ls : List Ln) (life : Int) (L I W : List Int) (T : List (List Int)) : List AV :=
  [.lst 2 (ks.map stA), .lst 5 (ls.map lnA), .int life, .ints L, .ints I, .ints W, .lst 1 (T.map AV.ints)]
def fitB (ls : List Ln) (life : Int) (W : List Int) (T : List (List Int)) (loan item : Nat) : Bool :=
  decide (W.getD item 0 + (ls.getD loan ln0).uses ≤ life) && !(T.getD item []).any fun i => ovB (ls.getD i.toNat ln0) (ls.getD loan ln0)
theorem fits1_pure {ks : List St} {ls : List Ln} {life : Int} {L I W : List Int} {T : List (List Int)} (l : Ln) (i : Int) (hi : 0 ≤ i ∧ i < ls.length) (hl20 : ls.length ≤ 20) :
    Pure Try.prog 88 [.int i, .ref [.ref (benF ks ls life L I W T) 0] 0, .ref [.int l.kind, .int l.room, .int l.fr, .int l.to, .int l.uses] 0] (.bool (ovB (ls.getD i.toNat ln0) l)) := by
  generalize hx : ls.getD i.toNat ln0 = x
  (refine Spec.bd 0 Try.func88 Try.results88 Try.ntmps88 ?_; simp only [entry, zipArgs, Nat.reduceAdd])
  (refine x_go @hx ?_)
  (refine Wp.rnD 11 ?_; apply exAb; (((refine x_abn @hx ?_); (apply Abn.pureP; (exact x_ev @hx); (exact (Enters.of Try.func62 rfl rfl)); (exact overlap_pure x l); (exact x_al @hx); (try dsimp only [putA, optG])); (refine x_abn @hx ?_)); exact Abn.nil))
  (refine x_go @hx ?_)
  (first | exact x_ret @hx | refine x_retZ @hx ?_)
theorem fits_pure {ks : List St} {ls : List Ln} {life : Int} {L I W : List Int} {T : List (List Int)} (loan item : Int) (hl : 0 ≤ loan ∧ loan < ls.length) (hi : 0 ≤ item ∧ item < T.length) (hW : W.length = T.length) (h20 : ls.length ≤ 20) (h8 : T.length ≤ 100)
    (hu : 0 ≤ (ls.getD loan.toNat ln0).uses ∧ (ls.getD loan.toNat ln0).uses ≤ 100) (hw : 0 ≤ W.getD item.toNat 0 ∧ W.getD item.toNat 0 ≤ 10000) (hT : ∀ x ∈ T.getD item.toNat [], 0 ≤ x ∧ x < (ls.length : Int)) (hTl : (T.getD item.toNat []).length ≤ 1000) :
    Pure Try.prog 68 [.ref (benF ks ls life L I W T) 0, .int loan, .int item] (.bool (fitB ls life W T loan.toNat item.toNat)) := by
  unfold fitB
  generalize hx : ls.getD loan.toNat ln0 = x at hu
  generalize hz : W.getD item.toNat 0 = z at hw
  generalize ht : T.getD item.toNat [] = t at hT hTl
  (refine Spec.bd 0 Try.func68 Try.results68 Try.ntmps68 ?_; simp only [entry, zipArgs, Nat.reduceAdd])
  (refine x_go (zc @hx (zc @hz (zc @ht @hW))) ?_)
  (refine Wp.rnD 28 ?_; apply exAb; (((refine x_abn (zc @hx (zc @hz (zc @ht @hW))) ?_); (apply Abn.pureP; (exact x_ev (zc @hx (zc @hz (zc @ht @hW)))); (exact (Enters.of Try.func87 rfl rfl)); (exact (containsFuncI t _ _ _ (Enters.of Try.func88 rfl rfl) (by simp only [push_cast]) (fun m => ⟨rfl, rfl⟩) (fun i hi => fits1_pure x i (hT i hi) h20) (by omega))); (exact x_al (zc @hx (zc @hz (zc @ht @hW)))); (try dsimp only [putA, optG])); (refine x_abn (zc @hx (zc @hz (zc @ht @hW))) ?_)); exact Abn.nil))
  (refine x_go (zc @hx (zc @hz (zc @ht @hW))) ?_)
  (first | exact x_ret (zc @hx (zc @hz (zc @ht @hW))) | refine x_retZ (zc @hx (zc @hz (zc @ht @hW))) ?_)
end Go.Proofs.Try
set_option maxHeartbeats 8000000
namespace Go.Proofs.Try
open Go.Vg

/-! an item is lent, and taken back -/
theorem lentR_getD {N : Nat} : ∀ {T : List (Nat × List Int)} {k j : Nat} (d : AV), j < T.length → (lentR N k T).getD j d = .osl (N + (k + j)) (T.getD j (0, [])).1 0 (T.getD j (0, [])).2.length
  | [], _, _, _, h => by simp at h
  | t :: T, k, 0, _, _ => by simp [lentR]
  | t :: T, k, j + 1, d, h => by
    have := lentR_getD (N := N) (T := T) (k := k + 1) (j := j) d (by simpa using h)
    simp only [lentR, List.getD_cons_succ, this]
    rw [show k + 1 + j = k + (j + 1) by omega]
theorem lentR_set {N : Nat} : ∀ {T : List (Nat × List Int)} {k j : Nat} {v : Nat} {l : List Int}, (lentR N k T).set j (.osl (N + (k + j)) v 0 l.length) = lentR N k (T.set j (v, l))
  | [], _, _, _, _ => rfl
  | t :: T, k, 0, _, _ => by simp [lentR]
  | t :: T, k, j + 1, v, l => by
    have := lentR_set (N := N) (T := T) (k := k + 1) (j := j) (v := v) (l := l)
    simp only [lentR, List.set_cons_succ]
    rw [← this, show k + 1 + j = k + (j + 1) by omega]
theorem get7 {a0 a1 a2 a3 a4 a5 a6 : Ent} {l : Mem} {j : Nat} : (a0 :: a1 :: a2 :: a3 :: a4 :: a5 :: a6 :: l)[7 + j]? = l[j]? := by
  rw [show 7 + j = j + 7 by omega]; rfl
theorem set7 {a0 a1 a2 a3 a4 a5 a6 e : Ent} {l : Mem} {j : Nat} : (a0 :: a1 :: a2 :: a3 :: a4 :: a5 :: a6 :: l).set (7 + j) e = a0 :: a1 :: a2 :: a3 :: a4 :: a5 :: a6 :: l.set j e := by
  rw [show 7 + j = j + 7 by omega]; rfl
theorem lentE_get {T : List (Nat × List Int)} {G : Mem} {j : Nat} (h : j < T.length) : (T.map lentE ++ G)[j]? = some (lentE (T.getD j (0, []))) := by
  rw [List.getElem?_append_left (by simpa using h)]; simp [h]
theorem lentE_set {T : List (Nat × List Int)} {G : Mem} {j : Nat} (h : j < T.length) (v : Nat) (l : List Int) : (T.map lentE ++ G).set j ⟨v, .row 1 (l.map AV.int)⟩ = (T.set j (v, l)).map lentE ++ G := by
  rw [List.set_append_left _ _ (by simpa using h), List.map_set]; rfl
def lentT (T : List (Nat × List Int)) (j : Nat) (loan : Int) : List (Nat × List Int) := T.set j ((T.getD j (0, [])).1 + 1, (T.getD j (0, [])).2 ++ [loan])
theorem lend_spec {F G : Mem} {N : Nat} (hF : F.length = N) {ks : List St} {ls : List Ln} {e0 e4 : Ent} {life : Int} {L I W : List Int} {vi : Nat} {T : List (Nat × List Int)} (loan item : Int) (hl : 0 ≤ loan ∧ loan < ls.length) (hi : 0 ≤ item ∧ item < T.length) (hW : W.length = T.length)
    (h20 : ls.length ≤ 20) (h8 : T.length ≤ 100) (hI : I.length ≤ 1000) (hu : 0 ≤ (ls.getD loan.toNat ln0).uses ∧ (ls.getD loan.toNat ln0).uses ≤ 100) (hw : 0 ≤ W.getD item.toNat 0 ∧ W.getD item.toNat 0 ≤ 10000) (hTl : (T.getD item.toNat (0, [])).2.length ≤ 1000) :
    Go.Vg.Spec Try.prog 69 [.optr (N + 3) 1 0 0, .int loan, .int item] (F ++ blk N ks ls e0 e4 life L vi I W T G) (fun _ m' => m' = F ++ blk N ks ls e0 e4 life L (vi + 1) (I ++ [item]) (W.set item.toNat (W.getD item.toNat 0 + (ls.getD loan.toNat ln0).uses)) (lentT T item.toNat loan) G) := by
  unfold lentT
  generalize hx : ls.getD loan.toNat ln0 = x at hu
  generalize hz : W.getD item.toNat 0 = z at hw
  have hlg : ∀ d, (lentR N 7 T).getD item.toNat d = .osl (N + (7 + item.toNat)) (T.getD item.toNat (0, [])).1 0 (T.getD item.toNat (0, [])).2.length := fun d => lentR_getD d (by omega)
  have heg := lentE_get (T := T) (G := G) (j := item.toNat) (by omega)
  have hsg := fun v l => lentE_set (T := T) (G := G) (j := item.toNat) (by omega) v l
  have hrs := fun v l => lentR_set (N := N) (T := T) (k := 7) (j := item.toNat) (v := v) (l := l)
  generalize ht : T.getD item.toNat (0, []) = t at hTl hlg heg
  obtain ⟨tv, tl⟩ := t
  simp only at hTl hlg
  rw [lentE] at heg
  simp only at heg
  (refine Spec.of_bodyA Try.func69 rfl (by rw [Try.ntmps69]; simp) ?_; rw [Try.results69, Try.ntmps69]; simp only [entry, zipArgs, Nat.reduceAdd])
  (refine x_go (zc @hx (zc @hz (zc @hW (zc @hlg (zc (fun l => @getF _ l _ hF) (zc (fun l => @getF0 _ l _ hF) (zc (fun l => @setF _ l _ hF) (zc (fun l => @setF0 _ l _ hF) (zc @get7 (zc @set7 (zc @heg (zc @lentR_len @hsg)))))))))))) ?_)
  (apply Wp.cond; (exact x_ev (zc @hx (zc @hz (zc @hW (zc @hlg (zc (fun l => @getF _ l _ hF) (zc (fun l => @getF0 _ l _ hF) (zc (fun l => @setF _ l _ hF) (zc (fun l => @setF0 _ l _ hF) (zc @get7 (zc @set7 (zc @heg (zc @lentR_len @hsg))))))))))))))
  · (intro hc; first | replace hc := bT hc | skip)
    (refine x_go (zc @hx (zc @hz (zc @hW (zc @hlg (zc (fun l => @getF _ l _ hF) (zc (fun l => @getF0 _ l _ hF) (zc (fun l => @setF _ l _ hF) (zc (fun l => @setF0 _ l _ hF) (zc @get7 (zc @set7 (zc @heg (zc @lentR_len @hsg)))))))))))) ?_)
    (apply Wp.runE 18 18 mixed; (dsimp only [List.map] <;> exact rfl); exact rfl; kernel_rfl; ((refine x_nx (zc @hx (zc @hz (zc @hW (zc @hlg (zc (fun l => @getF _ l _ hF) (zc (fun l => @getF0 _ l _ hF) (zc (fun l => @setF _ l _ hF) (zc (fun l => @setF0 _ l _ hF) (zc @get7 (zc @set7 (zc @heg (zc @lentR_len @hsg)))))))))))) ?_); (refine x_ef (zc @hx (zc @hz (zc @hW (zc @hlg (zc (fun l => @getF _ l _ hF) (zc (fun l => @getF0 _ l _ hF) (zc (fun l => @setF _ l _ hF) (zc (fun l => @setF0 _ l _ hF) (zc @get7 (zc @set7 (zc @heg (zc @lentR_len @hsg)))))))))))) ?_); (refine x_nx (zc @hx (zc @hz (zc @hW (zc @hlg (zc (fun l => @getF _ l _ hF) (zc (fun l => @getF0 _ l _ hF) (zc (fun l => @setF _ l _ hF) (zc (fun l => @setF0 _ l _ hF) (zc @get7 (zc @set7 (zc @heg (zc @lentR_len @hsg)))))))))))) ?_); exact Abe.nil))
    (refine x_go (zc @hx (zc @hz (zc @hW (zc @hlg (zc (fun l => @getF _ l _ hF) (zc (fun l => @getF0 _ l _ hF) (zc (fun l => @setF _ l _ hF) (zc (fun l => @setF0 _ l _ hF) (zc @get7 (zc @set7 (zc @heg (zc @lentR_len @hsg)))))))))))) ?_)
    (apply Wp.runW 14 16 (fun m => m.set (N + (7 + item.toNat)) ⟨tv + 1, .row 1 ((tl ++ [loan]).map AV.int)⟩) mixed; (dsimp only [List.map] <;> exact rfl); exact rfl; kernel_rfl; kernel_rfl; (dsimp only; ((refine x_wl (zc @hx (zc @hz (zc @hW (zc @hlg (zc (fun l => @getF _ l _ hF) (zc (fun l => @getF0 _ l _ hF) (zc (fun l => @setF _ l _ hF) (zc (fun l => @setF0 _ l _ hF) (zc @get7 (zc @set7 (zc @heg (zc @lentR_len @hsg)))))))))))) ?_)); exact AbW.nil))
    (refine x_go (zc @hx (zc @hz (zc @hW (zc @hlg (zc (fun l => @getF _ l _ hF) (zc (fun l => @getF0 _ l _ hF) (zc (fun l => @setF _ l _ hF) (zc (fun l => @setF0 _ l _ hF) (zc @get7 (zc @set7 (zc @heg (zc @lentR_len @hsg)))))))))))) ?_)
    (apply leaveAN; exact rfl; (exact x_ev (zc @hx (zc @hz (zc @hW (zc @hlg (zc (fun l => @getF _ l _ hF) (zc (fun l => @getF0 _ l _ hF) (zc (fun l => @setF _ l _ hF) (zc (fun l => @setF0 _ l _ hF) (zc @get7 (zc @set7 (zc @heg (zc @lentR_len @hsg))))))))))))); ((exact x_cl (zc @hx (zc @hz (zc @hW (zc @hlg (zc (fun l => @getF _ l _ hF) (zc (fun l => @getF0 _ l _ hF) (zc (fun l => @setF _ l _ hF) (zc (fun l => @setF0 _ l _ hF) (zc @get7 (zc @set7 (zc @heg (zc @lentR_len @hsg)))))))))))))); (try simp only [push_cast, seval, hx, hz, hW, hlg, getF hF, getF0 hF, setF hF, setF0 hF, get7, set7, heg, lentR_len, hsg]))
    have e := hrs (tv + 1) (tl ++ [loan])
    rw [List.length_append] at e
    simp [blk, benR, hW]
    exact e
  · intro h2
    simp at h2; omega
def backT (T : List (Nat × List Int)) (j : Nat) : List (Nat × List Int) := T.set j ((T.getD j (0, [])).1, (T.getD j (0, [])).2.dropLast)
theorem back_spec {F G : Mem} {N : Nat} (hF : F.length = N) {ks : List St} {ls : List Ln} {e0 e4 : Ent} {life : Int} {L I W : List Int} {vi : Nat} {T : List (Nat × List Int)} (loan item : Int) (hl : 0 ≤ loan ∧ loan < ls.length) (hi : 0 ≤ item ∧ item < T.length) (hW : W.length = T.length)
    (h20 : ls.length ≤ 20) (h8 : T.length ≤ 100) (hI : I.length ≤ 1000) (hu : 0 ≤ (ls.getD loan.toNat ln0).uses ∧ (ls.getD loan.toNat ln0).uses ≤ 100) (hw : 0 ≤ W.getD item.toNat 0 ∧ W.getD item.toNat 0 ≤ 10000) (hTl : 1 ≤ (T.getD item.toNat (0, [])).2.length ∧ (T.getD item.toNat (0, [])).2.length ≤ 1000) :
    Go.Vg.Spec Try.prog 84 [.optr (N + 3) 1 0 0, .int loan] (F ++ blk N ks ls e0 e4 life L vi (I ++ [item]) W T G) (fun _ m' => m' = F ++ blk N ks ls e0 e4 life L vi I (W.set item.toNat (W.getD item.toNat 0 - (ls.getD loan.toNat ln0).uses)) (backT T item.toNat) G) := by
  unfold backT
  generalize hx : ls.getD loan.toNat ln0 = x at hu
  generalize hz : W.getD item.toNat 0 = z at hw
  have hlg : ∀ d, (lentR N 7 T).getD item.toNat d = .osl (N + (7 + item.toNat)) (T.getD item.toNat (0, [])).1 0 (T.getD item.toNat (0, [])).2.length := fun d => lentR_getD d (by omega)
  have heg := lentE_get (T := T) (G := G) (j := item.toNat) (by omega)
  have hsg := fun v l => lentE_set (T := T) (G := G) (j := item.toNat) (by omega) v l
  have hrs := fun v l => lentR_set (N := N) (T := T) (k := 7) (j := item.toNat) (v := v) (l := l)
  generalize ht : T.getD item.toNat (0, []) = t at hTl hlg heg
  obtain ⟨tv, tl⟩ := t
  simp only at hTl hlg
  rw [lentE] at heg
  simp only at heg
  have hdl : tl.dropLast = tl.take (tl.length - 1) := List.dropLast_eq_take ..
  have hlast : (I ++ [item]).getD I.length 0 = item := by simp
  have htk : (I ++ [item]).take I.length = I := by simp
  have hJl : (I ++ [item]).length = I.length + 1 := by simp
  generalize I ++ [item] = J at hlast htk hJl
  (refine Spec.of_bodyA Try.func84 rfl (by rw [Try.ntmps84]; simp) ?_; rw [Try.results84, Try.ntmps84]; simp only [entry, zipArgs, Nat.reduceAdd])
  (refine x_go (zc @hx (zc @hz (zc @hW (zc @hlg (zc (fun l => @getF _ l _ hF) (zc (fun l => @getF0 _ l _ hF) (zc (fun l => @setF _ l _ hF) (zc (fun l => @setF0 _ l _ hF) (zc @get7 (zc @set7 (zc @heg (zc @lentR_len (zc @hsg (zc @hlast (zc @hJl (zc @Int.add_sub_cancel (zc @mapTk (zc @htk @Nat.sub_zero)))))))))))))))))) ?_)
  (apply Wp.cond; (exact x_ev (zc @hx (zc @hz (zc @hW (zc @hlg (zc (fun l => @getF _ l _ hF) (zc (fun l => @getF0 _ l _ hF) (zc (fun l => @setF _ l _ hF) (zc (fun l => @setF0 _ l _ hF) (zc @get7 (zc @set7 (zc @heg (zc @lentR_len (zc @hsg (zc @hlast (zc @hJl (zc @Int.add_sub_cancel (zc @mapTk (zc @htk @Nat.sub_zero))))))))))))))))))))
  · (intro hc; first | replace hc := bT hc | skip)
    (refine x_go (zc @hx (zc @hz (zc @hW (zc @hlg (zc (fun l => @getF _ l _ hF) (zc (fun l => @getF0 _ l _ hF) (zc (fun l => @setF _ l _ hF) (zc (fun l => @setF0 _ l _ hF) (zc @get7 (zc @set7 (zc @heg (zc @lentR_len (zc @hsg (zc @hlast (zc @hJl (zc @Int.add_sub_cancel (zc @mapTk (zc @htk @Nat.sub_zero)))))))))))))))))) ?_)
    (apply Wp.runE 18 18 mixed; (dsimp only [List.map] <;> exact rfl); exact rfl; kernel_rfl; ((refine x_nx (zc @hx (zc @hz (zc @hW (zc @hlg (zc (fun l => @getF _ l _ hF) (zc (fun l => @getF0 _ l _ hF) (zc (fun l => @setF _ l _ hF) (zc (fun l => @setF0 _ l _ hF) (zc @get7 (zc @set7 (zc @heg (zc @lentR_len (zc @hsg (zc @hlast (zc @hJl (zc @Int.add_sub_cancel (zc @mapTk (zc @htk @Nat.sub_zero)))))))))))))))))) ?_); (refine x_ef (zc @hx (zc @hz (zc @hW (zc @hlg (zc (fun l => @getF _ l _ hF) (zc (fun l => @getF0 _ l _ hF) (zc (fun l => @setF _ l _ hF) (zc (fun l => @setF0 _ l _ hF) (zc @get7 (zc @set7 (zc @heg (zc @lentR_len (zc @hsg (zc @hlast (zc @hJl (zc @Int.add_sub_cancel (zc @mapTk (zc @htk @Nat.sub_zero)))))))))))))))))) ?_); (refine x_nx (zc @hx (zc @hz (zc @hW (zc @hlg (zc (fun l => @getF _ l _ hF) (zc (fun l => @getF0 _ l _ hF) (zc (fun l => @setF _ l _ hF) (zc (fun l => @setF0 _ l _ hF) (zc @get7 (zc @set7 (zc @heg (zc @lentR_len (zc @hsg (zc @hlast (zc @hJl (zc @Int.add_sub_cancel (zc @mapTk (zc @htk @Nat.sub_zero)))))))))))))))))) ?_); exact Abe.nil))
    (refine x_go (zc @hx (zc @hz (zc @hW (zc @hlg (zc (fun l => @getF _ l _ hF) (zc (fun l => @getF0 _ l _ hF) (zc (fun l => @setF _ l _ hF) (zc (fun l => @setF0 _ l _ hF) (zc @get7 (zc @set7 (zc @heg (zc @lentR_len (zc @hsg (zc @hlast (zc @hJl (zc @Int.add_sub_cancel (zc @mapTk (zc @htk @Nat.sub_zero)))))))))))))))))) ?_)
    (apply Wp.runE 23 23 mixed; (dsimp only [List.map] <;> exact rfl); exact rfl; kernel_rfl; ((refine x_nx (zc @hx (zc @hz (zc @hW (zc @hlg (zc (fun l => @getF _ l _ hF) (zc (fun l => @getF0 _ l _ hF) (zc (fun l => @setF _ l _ hF) (zc (fun l => @setF0 _ l _ hF) (zc @get7 (zc @set7 (zc @heg (zc @lentR_len (zc @hsg (zc @hlast (zc @hJl (zc @Int.add_sub_cancel (zc @mapTk (zc @htk @Nat.sub_zero)))))))))))))))))) ?_); (refine x_ef (zc @hx (zc @hz (zc @hW (zc @hlg (zc (fun l => @getF _ l _ hF) (zc (fun l => @getF0 _ l _ hF) (zc (fun l => @setF _ l _ hF) (zc (fun l => @setF0 _ l _ hF) (zc @get7 (zc @set7 (zc @heg (zc @lentR_len (zc @hsg (zc @hlast (zc @hJl (zc @Int.add_sub_cancel (zc @mapTk (zc @htk @Nat.sub_zero)))))))))))))))))) ?_); (refine x_nx (zc @hx (zc @hz (zc @hW (zc @hlg (zc (fun l => @getF _ l _ hF) (zc (fun l => @getF0 _ l _ hF) (zc (fun l => @setF _ l _ hF) (zc (fun l => @setF0 _ l _ hF) (zc @get7 (zc @set7 (zc @heg (zc @lentR_len (zc @hsg (zc @hlast (zc @hJl (zc @Int.add_sub_cancel (zc @mapTk (zc @htk @Nat.sub_zero)))))))))))))))))) ?_); exact Abe.nil))
    (apply Wp.trim (N + (7 + item.toNat)) ( tl.length - 1); (exact x_ev (zc @hx (zc @hz (zc @hW (zc @hlg (zc (fun l => @getF _ l _ hF) (zc (fun l => @getF0 _ l _ hF) (zc (fun l => @setF _ l _ hF) (zc (fun l => @setF0 _ l _ hF) (zc @get7 (zc @set7 (zc @heg (zc @lentR_len (zc @hsg (zc @hlast (zc @hJl (zc @Int.add_sub_cancel (zc @mapTk (zc @htk @Nat.sub_zero))))))))))))))))))); (try simp only [push_cast, seval, hx, hz, hW, hlg, getF hF, getF0 hF, setF hF, setF0 hF, get7, set7, heg, lentR_len, hsg, hlast, hJl, Int.add_sub_cancel, ← List.map_take, htk, Nat.sub_zero]))
    repeat (first | apply Wp.seq | apply Wp.block | (apply Wp.skip; dsimp only [sQ, tQ, bQ]))
    (refine x_beg (zc @hx (zc @hz (zc @hW (zc @hlg (zc (fun l => @getF _ l _ hF) (zc (fun l => @getF0 _ l _ hF) (zc (fun l => @setF _ l _ hF) (zc (fun l => @setF0 _ l _ hF) (zc @get7 (zc @set7 (zc @heg (zc @lentR_len (zc @hsg (zc @hlast (zc @hJl (zc @Int.add_sub_cancel (zc @mapTk (zc @htk @Nat.sub_zero)))))))))))))))))) ?_)
    iterate 7 (refine x_nr (zc @hx (zc @hz (zc @hW (zc @hlg (zc (fun l => @getF _ l _ hF) (zc (fun l => @getF0 _ l _ hF) (zc (fun l => @setF _ l _ hF) (zc (fun l => @setF0 _ l _ hF) (zc @get7 (zc @set7 (zc @heg (zc @lentR_len (zc @hsg (zc @hlast (zc @hJl (zc @Int.add_sub_cancel (zc @mapTk (zc @htk @Nat.sub_zero)))))))))))))))))) ?_)
    (apply Run.trim (N + 6) ( I.length); (exact x_ev (zc @hx (zc @hz (zc @hW (zc @hlg (zc (fun l => @getF _ l _ hF) (zc (fun l => @getF0 _ l _ hF) (zc (fun l => @setF _ l _ hF) (zc (fun l => @setF0 _ l _ hF) (zc @get7 (zc @set7 (zc @heg (zc @lentR_len (zc @hsg (zc @hlast (zc @hJl (zc @Int.add_sub_cancel (zc @mapTk (zc @htk @Nat.sub_zero))))))))))))))))))); (exact x_ev (zc @hx (zc @hz (zc @hW (zc @hlg (zc (fun l => @getF _ l _ hF) (zc (fun l => @getF0 _ l _ hF) (zc (fun l => @setF _ l _ hF) (zc (fun l => @setF0 _ l _ hF) (zc @get7 (zc @set7 (zc @heg (zc @lentR_len (zc @hsg (zc @hlast (zc @hJl (zc @Int.add_sub_cancel (zc @mapTk (zc @htk @Nat.sub_zero))))))))))))))))))); (try simp only [push_cast, seval, hx, hz, hW, hlg, getF hF, getF0 hF, setF hF, setF0 hF, get7, set7, heg, lentR_len, hsg, hlast, hJl, Int.add_sub_cancel, ← List.map_take, htk, Nat.sub_zero]))
    iterate 3 (refine x_nr (zc @hx (zc @hz (zc @hW (zc @hlg (zc (fun l => @getF _ l _ hF) (zc (fun l => @getF0 _ l _ hF) (zc (fun l => @setF _ l _ hF) (zc (fun l => @setF0 _ l _ hF) (zc @get7 (zc @set7 (zc @heg (zc @lentR_len (zc @hsg (zc @hlast (zc @hJl (zc @Int.add_sub_cancel (zc @mapTk (zc @htk @Nat.sub_zero)))))))))))))))))) ?_)
    apply Run.nil
    (apply leaveAN; exact rfl; (exact x_ev (zc @hx (zc @hz (zc @hW (zc @hlg (zc (fun l => @getF _ l _ hF) (zc (fun l => @getF0 _ l _ hF) (zc (fun l => @setF _ l _ hF) (zc (fun l => @setF0 _ l _ hF) (zc @get7 (zc @set7 (zc @heg (zc @lentR_len (zc @hsg (zc @hlast (zc @hJl (zc @Int.add_sub_cancel (zc @mapTk (zc @htk @Nat.sub_zero))))))))))))))))))); ((exact x_cl (zc @hx (zc @hz (zc @hW (zc @hlg (zc (fun l => @getF _ l _ hF) (zc (fun l => @getF0 _ l _ hF) (zc (fun l => @setF _ l _ hF) (zc (fun l => @setF0 _ l _ hF) (zc @get7 (zc @set7 (zc @heg (zc @lentR_len (zc @hsg (zc @hlast (zc @hJl (zc @Int.add_sub_cancel (zc @mapTk (zc @htk @Nat.sub_zero)))))))))))))))))))); (try simp only [push_cast, seval, hx, hz, hW, hlg, getF hF, getF0 hF, setF hF, setF0 hF, get7, set7, heg, lentR_len, hsg, hlast, hJl, Int.add_sub_cancel, ← List.map_take, htk, Nat.sub_zero]))
    have e := hrs tv tl.dropLast
    rw [List.length_dropLast] at e
    simp [blk, benR, hW, htk, hdl] at e ⊢
    exact e
  · intro h2
    simp at h2; omega
end Go.Proofs.Try
set_option maxHeartbeats 8000000
namespace Go.Proofs.Try
open Go.Vg

/-! a bench, read as frozen -/
theorem VwL.selfs {m : Mem} : ∀ {xs : List AV}, okL 0 xs → VwL m xs xs
  | [], _ => .nil
  | x :: xs, h => .cons (.self h.1) (VwL.selfs h.2)
theorem Vw.oints {m : Mem} {id ver : Nat} {l : List Int} (n : Nat) (hn : n = l.length) (hm : m[id]? = some ⟨ver, .row 1 (l.map AV.int)⟩) : Vw m (.osl id ver 0 n) (.ints l) := by
  subst hn
  refine .osl hm (by simp) (by omega) ?_
  have e : ((l.map AV.int).drop 0).take l.length = l.map AV.int := by simp [List.take_of_length_le]
  rw [e]
  exact VwL.selfs (by simp only [push_cast])
theorem VwL.lent {m : Mem} {N : Nat} : ∀ {T : List (Nat × List Int)} {k : Nat}, (∀ j, j < T.length → m[N + (k + j)]? = some (lentE (T.getD j (0, [])))) → VwL m (lentR N k T) ((T.map (·.2)).map AV.ints)
  | [], _, _ => .nil
  | t :: T, k, h => by
    refine .cons (Vw.oints _ rfl (by have := h 0 (by simp); simpa [lentE] using this)) (VwL.lent (k := k + 1) fun j hj => ?_)
    have := h (j + 1) (by simpa using hj)
    rw [show k + 1 + j = k + (j + 1) by omega, this]
    simp
theorem blk_vw {F G : Mem} {N : Nat} (hF : F.length = N) {ks : List St} {ls : List Ln} {e0 e4 : Ent} {life : Int} {L I W : List Int} {vi : Nat} {T : List (Nat × List Int)} :
    Vw (F ++ blk N ks ls e0 e4 life L vi I W T G) (.optr (N + 3) 1 0 0) (.ref (benF ks ls life L I W (T.map (·.2))) 0) := by
  refine .optr (sz := 7) (l := [benR N ks ls life L vi I W T]) (x := benR N ks ls life L vi I W T) (by rw [getF hF]; rfl) rfl (by simp [AV.cells]) ?_
  refine .cons (.self (by simp only [push_cast])) (.cons (.self (by simp only [push_cast])) (.cons (.self trivial) (.cons (Vw.oints _ rfl (by rw [getF hF]; rfl)) (.cons (Vw.oints _ rfl (by rw [getF hF]; rfl)) (.cons (Vw.oints _ rfl (by rw [getF hF]; rfl)) (.cons ?_ .nil))))))
  refine .osl (sz := 1) (l := lentR N 7 T) (by rw [getF hF]; rfl) (by rw [lentR_len]; omega) (by omega) ?_
  have e : ((lentR N 7 T).drop 0).take T.length = lentR N 7 T := by simp [List.take_of_length_le, lentR_len]
  rw [e]
  refine VwL.lent fun j hj => ?_
  rw [getF hF, get7, lentE_get hj]
end Go.Proofs.Try
set_option maxHeartbeats 8000000
namespace Go.Proofs.Try

/-! a search, number by number, in order -/
def tryF (f : Nat → Option (List Int)) : Nat → Nat → Option (List Int)
  | 0, _ => none
  | d + 1, j => match f j with | some x => some x | none => tryF f d (j + 1)
theorem tryF_none {f : Nat → Option (List Int)} : ∀ {d j : Nat}, tryF f d j = none ↔ ∀ i, j ≤ i → i < j + d → f i = none
  | 0, j => by simp only [tryF, true_iff]; intro i h1 h2; omega
  | d + 1, j => by
    have ih := tryF_none (f := f) (d := d) (j := j + 1)
    simp only [tryF]
    cases hf : f j with
    | some x =>
      simp only [reduceCtorEq, false_iff]
      intro h; rw [h j (by omega) (by omega)] at hf; cases hf
    | none =>
      simp only [ih]
      constructor
      · intro h i h1 h2
        by_cases hij : i = j
        · rw [hij]; exact hf
        · exact h i (by omega) (by omega)
      · intro h i h1 h2; exact h i (by omega) (by omega)
theorem tryF_some {f : Nat → Option (List Int)} {x : List Int} : ∀ {d j : Nat}, tryF f d j = some x → ∃ i, j ≤ i ∧ i < j + d ∧ f i = some x ∧ ∀ k, j ≤ k → k < i → f k = none
  | 0, j, h => by cases h
  | d + 1, j, h => by
    simp only [tryF] at h
    cases hf : f j with
    | some y =>
      rw [hf] at h
      exact ⟨j, by omega, by omega, by rw [hf]; exact h, fun k h1 h2 => by omega⟩
    | none =>
      rw [hf] at h
      obtain ⟨i, h1, h2, h3, h4⟩ := tryF_some h
      refine ⟨i, by omega, by omega, h3, fun k h5 h6 => ?_⟩
      by_cases hk : k = j
      · rw [hk]; exact hf
      · exact h4 k (by omega) h6
def srch (c : Nat → Nat) (ok : List Int → Bool) : Nat → List Int → Option (List Int)
  | 0, I => some I
  | r + 1, I => tryF (fun j => if ok (I ++ [(j : Int)]) = true then srch c ok r (I ++ [(j : Int)]) else none) (c I.length) 0
/-- right from n on -/
def RtF (c : Nat → Nat) (ok : List Int → Bool) (n : Nat) (J : List Int) : Prop := ∀ k, n ≤ k → k < J.length → ∃ j : Nat, j < c k ∧ J.getD k 0 = (j : Int) ∧ ok (J.take (k + 1)) = true
def LxT (J J' : List Int) : Prop := ∃ i, i < J.length ∧ J.take i = J'.take i ∧ J.getD i 0 < J'.getD i 0
theorem take_succ_getD {J : List Int} {n : Nat} (h : n < J.length) : J.take (n + 1) = J.take n ++ [J.getD n 0] := by
  rw [List.take_add_one]; simp [h]
/-- an extension, right from the end of the beginning on -/
def Ext (c : Nat → Nat) (ok : List Int → Bool) (r : Nat) (I J : List Int) : Prop := J.length = I.length + r ∧ J.take I.length = I ∧ RtF c ok I.length J
theorem ext_step {c : Nat → Nat} {ok : List Int → Bool} {r : Nat} {I J : List Int} : Ext c ok (r + 1) I J ↔ ∃ j : Nat, j < c I.length ∧ ok (I ++ [(j : Int)]) = true ∧ Ext c ok r (I ++ [(j : Int)]) J := by
  constructor
  · rintro ⟨h1, h2, h3⟩
    obtain ⟨j, h4, h5, h6⟩ := h3 I.length (Nat.le_refl _) (by omega)
    have e := take_succ_getD (J := J) (n := I.length) (by omega)
    rw [h2, h5] at e
    refine ⟨j, h4, by rw [← e]; exact h6, by simp; omega, by rw [List.length_append]; exact e, fun k h7 h8 => h3 k (by simp at h7; omega) h8⟩
  · rintro ⟨j, h4, h5, h1, h2, h3⟩
    rw [List.length_append] at h2 h1 h3
    simp only [List.length_cons, List.length_nil, Nat.zero_add] at h1 h2 h3
    have e := take_succ_getD (J := J) (n := I.length) (by omega)
    rw [h2] at e
    have e1 := List.append_inj e (by simp; omega)
    refine ⟨by omega, e1.1.symm, fun k h7 h8 => ?_⟩
    by_cases hk : k = I.length
    · subst hk
      have e2 := e1.2
      injection e2 with e2
      exact ⟨j, h4, e2.symm, by rw [h2]; exact h5⟩
    · exact h3 k (by omega) h8
theorem srch_none {c : Nat → Nat} {ok : List Int → Bool} : ∀ {r : Nat} {I : List Int}, srch c ok r I = none → ∀ J, ¬ Ext c ok r I J
  | 0, I, h, _ => by cases h
  | r + 1, I, h, J => by
    rw [ext_step]
    rintro ⟨j, h1, h2, h3⟩
    simp only [srch] at h
    have := tryF_none.1 h j (by omega) (by omega)
    rw [if_pos h2] at this
    exact srch_none this J h3
theorem srch_some {c : Nat → Nat} {ok : List Int → Bool} : ∀ {r : Nat} {I J : List Int}, srch c ok r I = some J → Ext c ok r I J ∧ ∀ J', Ext c ok r I J' → J = J' ∨ LxT J J'
  | 0, I, J, h => by
    simp only [srch, Option.some.injEq] at h
    subst h
    refine ⟨⟨rfl, by simp, fun k h1 h2 => by omega⟩, fun J' h => .inl ?_⟩
    have := h.2.1
    rw [List.take_of_length_le (by have := h.1; omega)] at this
    exact this.symm
  | r + 1, I, J, h => by
    simp only [srch] at h
    obtain ⟨i, h1, h2, h3, h4⟩ := tryF_some h
    by_cases hok : ok (I ++ [(i : Int)]) = true
    · rw [if_pos hok] at h3
      obtain ⟨h5, h6⟩ := srch_some h3
      refine ⟨ext_step.2 ⟨i, by omega, hok, h5⟩, fun J' hJ => ?_⟩
      obtain ⟨j, h7, h8, h9⟩ := ext_step.1 hJ
      rcases Nat.lt_trichotomy j i with hji | hji | hji
      · have := h4 j (by omega) hji
        rw [if_pos h8] at this
        exact absurd h9 (srch_none this J')
      · subst hji; exact h6 J' h9
      · right
        have e1 := h5.2.1
        have e2 := h9.2.1
        have l1 := h5.1
        have l2 := h9.1
        simp only [List.length_append, List.length_cons, List.length_nil, Nat.zero_add] at e1 e2 l1 l2
        have f1 := take_succ_getD (J := J) (n := I.length) (by omega)
        have f2 := take_succ_getD (J := J') (n := I.length) (by omega)
        rw [e1] at f1
        rw [e2] at f2
        have g1 := List.append_inj f1 (by simp; omega)
        have g2 := List.append_inj f2 (by simp; omega)
        refine ⟨I.length, by omega, by rw [← g1.1, ← g2.1], ?_⟩
        have k1 := g1.2
        have k2 := g2.2
        injection k1 with k1
        injection k2 with k2
        omega
    · rw [if_neg hok] at h3; cases h3
theorem srch_isSome {c : Nat → Nat} {ok : List Int → Bool} {r : Nat} {I : List Int} : (srch c ok r I).isSome = true ↔ ∃ J, Ext c ok r I J := by
  cases h : srch c ok r I with
  | none => simp only [Option.isSome_none, Bool.false_eq_true, false_iff]; rintro ⟨J, hJ⟩; exact srch_none h J hJ
  | some J => simp only [Option.isSome_some, true_iff]; exact ⟨J, (srch_some h).1⟩
theorem LxT.asymm {J J' : List Int} (hl : J.length = J'.length) (h : LxT J J') (h' : LxT J' J) : False := by
  obtain ⟨i, h1, h2, h3⟩ := h
  obtain ⟨k, h4, h5, h6⟩ := h'
  have hg : ∀ {A B : List Int} {n m : Nat}, A.take n = B.take n → m < n → A.getD m 0 = B.getD m 0 := by
    intro A B n m e hm
    have := congrArg (fun l => l.getD m 0) e
    simpa [List.getD_eq_getElem?_getD, List.getElem?_take, hm] using this
  rcases Nat.lt_trichotomy i k with h | h | h
  · have := hg h5 h; omega
  · subst h; omega
  · have := hg h2 h; omega
/-- the first one is told by this -/
theorem srch_eq {c : Nat → Nat} {ok : List Int → Bool} {r : Nat} {I J : List Int} (h : Ext c ok r I J) (hm : ∀ J', Ext c ok r I J' → J = J' ∨ LxT J J') : srch c ok r I = some J := by
  cases hs : srch c ok r I with
  | none => exact absurd h (srch_none hs J)
  | some K =>
    obtain ⟨h1, h2⟩ := srch_some hs
    rcases h2 J h with e | e
    · rw [e]
    · rcases hm K h1 with e2 | e2
      · rw [e2]
      · exact absurd e2 (fun e2 => LxT.asymm (by rw [h1.1, h.1]) e e2)
/-! all of them, in order -/
def plF (f : Nat → List (List Int)) : Nat → Nat → List (List Int)
  | 0, _ => []
  | d + 1, j => f j ++ plF f d (j + 1)
def plL (c : Nat → Nat) (ok : List Int → Bool) : Nat → List Int → List (List Int)
  | 0, I => [I]
  | r + 1, I => plF (fun j => if ok (I ++ [(j : Int)]) = true then plL c ok r (I ++ [(j : Int)]) else []) (c I.length) 0
theorem plF_head {f : Nat → List (List Int)} : ∀ {d j : Nat}, (plF f d j).head? = tryF (fun i => (f i).head?) d j
  | 0, _ => rfl
  | d + 1, j => by
    simp only [plF, tryF]
    cases hf : f j with
    | nil => rw [List.nil_append, plF_head]; rfl
    | cons a l => rfl
theorem plL_head {c : Nat → Nat} {ok : List Int → Bool} : ∀ {r : Nat} {I : List Int}, (plL c ok r I).head? = srch c ok r I
  | 0, _ => rfl
  | r + 1, I => by
    simp only [plL, srch]
    rw [plF_head]
    congr 1
    funext j
    split
    · exact plL_head
    · rfl
/-! numbers that are alike -/
theorem srch_swap {n : Nat} {ok : List Int → Bool} (hok : ∀ (σ : Int → Int), (∀ x y, σ x = σ y → x = y) → ∀ I, ok (I.map σ) = ok I) {r : Nat} {I : List Int} {i j : Nat} (hi : i < n) (hj : j < n) (hI : (i : Int) ∉ I) (hJ : (j : Int) ∉ I) :
    ok (I ++ [(i : Int)]) = ok (I ++ [(j : Int)]) ∧ (srch (fun _ => n) ok r (I ++ [(i : Int)]) = none → srch (fun _ => n) ok r (I ++ [(j : Int)]) = none) := by
  let σ : Int → Int := fun x => if x = i then j else if x = j then i else x
  have hinj : ∀ x y, σ x = σ y → x = y := by
    intro x y h
    simp only [σ] at h
    split at h <;> split at h <;> (try split at h) <;> (try split at h) <;> omega
  have hσI : I.map σ = I := by
    conv => rhs; rw [← List.map_id I]
    apply List.map_congr_left
    intro x hx
    simp only [σ, id]
    rw [if_neg (fun h : x = i => hI (by rw [← h]; exact hx)), if_neg (fun h : x = j => hJ (by rw [← h]; exact hx))]
  have hσj : σ (j : Int) = i := by
    simp only [σ]; split
    · omega
    · simp
  have e1 : (I ++ [(j : Int)]).map σ = I ++ [(i : Int)] := by rw [List.map_append, hσI, List.map_cons, hσj]; rfl
  refine ⟨by rw [← e1]; exact hok σ hinj _, fun h => ?_⟩
  cases hs : srch (fun _ => n) ok r (I ++ [(j : Int)]) with
  | none => rfl
  | some J =>
    exfalso
    obtain ⟨⟨h1, h2, h3⟩, _⟩ := srch_some hs
    refine srch_none h (J.map σ) ⟨by simpa using h1, ?_, fun k hk1 hk2 => ?_⟩
    · have e2 : (I ++ [(i : Int)]).length = (I ++ [(j : Int)]).length := by simp
      rw [e2, ← List.map_take, h2, e1]
    · rw [List.length_map] at hk2
      obtain ⟨x, h4, h5, h6⟩ := h3 k (by simpa using hk1) hk2
      have hgd : (J.map σ).getD k 0 = σ (J.getD k 0) := by simp [List.getD_eq_getElem?_getD, hk2]
      have h6' : ok ((J.map σ).take (k + 1)) = true := by rw [← List.map_take, hok σ hinj]; exact h6
      rw [hgd, h5]
      have h4 : x < n := h4
      by_cases hxi : x = i
      · exact ⟨j, hj, by simp only [σ]; rw [if_pos (by omega)], h6'⟩
      · by_cases hxj : x = j
        · exact ⟨i, hi, by simp only [σ]; rw [if_neg (by omega), if_pos (by omega)], h6'⟩
        · exact ⟨x, h4, by simp only [σ]; rw [if_neg (by omega), if_neg (by omega)], h6'⟩
end Go.Proofs.Try
