/- A part of the proof of ResetOrders: contracts of functions, with plain laws that they need. -/
import Derived.Test.YtjhljokghikamaaGreatDoorVgWdJ
set_option linter.all false
set_option maxHeartbeats 8000000
namespace Go.Proofs.Tryz
open Go.Vg
theorem memLt {l : List Lt} {k : Nat} (h : k < l.length) : l.getD k lt0 ∈ l := by simp [h]
theorem findLt {l : List Lt} {p : Lt → Bool} {k : Nat} (hk : k < l.length) (h1 : ∀ j, j < k → p (l.getD j lt0) = false) (h2 : p (l.getD k lt0) = true) : l.any p = true ∧ l.findIdx p = k := by
 have e : ∀ j (hj : j < l.length), l.getD j lt0 = l[j] := fun j hj => by simp [hj]
 refine ⟨List.any_eq_true.2 ⟨l[k], List.getElem_mem hk, by rw [← e k hk]; exact h2⟩, ?_⟩
 rw [List.findIdx_eq hk]
 refine ⟨by rw [← e k hk]; exact h2, fun j hj => ?_⟩
 have := h1 j hj
 rw [e j (by omega)] at this
 exact this
theorem anyNoneLt {l : List Lt} {p : Lt → Bool} (h : ∀ j, j < l.length → p (l.getD j lt0) = false) : l.any p = false := by
 rw [List.any_eq_false]
 intro x hx
 obtain ⟨i, hi, rfl⟩ := List.getElem_of_mem hx
 have := h i hi
 simp [hi] at this
 simp [this]
theorem indexFuncLt (l : List Lt) (g : FuncId) (caps : List AV) (p : Lt → Bool) (hg : Enters Tryz.prog g) (hk : okL 0 caps) (hcv : ∀ m, caps.map (view m) = caps ∧ caps.map (view2 m) = caps) (hp : ∀ x ∈ l, Pure Tryz.prog g (ltA x :: caps) (.bool (p x))) (hl : l.length ≤ 9223372036854775807) :
  Pure Tryz.prog 174 [.lst 3 (l.map ltA), .clo g caps] (.int (if l.any p then (l.findIdx p : Int) else -1)) := by
 (refine Spec.bd 0 Tryz.func174 Tryz.results174 Tryz.ntmps174 ?_; simp only [entry, zipArgs, Nat.reduceAdd])
 (refine x_go (zc @hcv @mapAp) ?_)
 refine Wp.loop (fun k : Nat => { t := [(0, .lst 3 (l.map ltA)), (1, .clo g caps), (7, .int l.length), (8, .int k)], m := [], n := 19 }) (fun k => k ≤ l.length ∧ ∀ j, j < k → p (l.getD j lt0) = false) (fun k => l.length - k) 0 ?_ ?_ ?_
 ·(refine Le.of ?_ ?_ rfl rfl <;> (try simp only [push_cast, seval, hcv, List.map_append]) <;> (try (with_reducible rfl)))
 ·simp
 ·rintro k ⟨hk1, hk2⟩
  (refine x_go (zc @hcv @mapAp) ?_)
  (apply Wp.cond; (exact x_ev (zc @hcv @mapAp)))
  ·(intro hc; first | replace hc := bT hc | skip)
   have hpk := hp _ (memLt hc)
   generalize hx : l.getD k lt0 = x at hpk
   (refine x_go (zc @hcv (zc @mapAp @hx)) ?_)
   (apply Run.pureP; (exact x_ev (zc @hcv (zc @mapAp @hx))); (exact hg); (exact hpk); (exact x_al (zc @hcv (zc @mapAp @hx))); (try dsimp only [putA, optG]))
   (refine x_go (zc @hcv (zc @mapAp @hx)) ?_)
   (apply Wp.cond; (exact x_ev (zc @hcv (zc @mapAp @hx))))
   ·intro h2
    rw [← hx] at h2
    obtain ⟨e1, e2⟩ := findLt hc hk2 h2
    (refine x_go (zc @hcv (zc @mapAp @hx)) ?_)
    (first | exact x_ret (zc @hcv (zc @mapAp @hx)) | refine x_retZ (zc @hcv (zc @mapAp @hx)) ?_)
    rw [e1, e2]; rfl
   ·intro h2
    (refine x_go (zc @hcv (zc @mapAp @hx)) ?_)
    refine ⟨k + 1, ?_, ⟨by omega, fun j hj => ?_⟩, by omega⟩
    ·(refine Le.of ?_ ?_ rfl rfl <;> (try simp only [push_cast, seval, hcv, List.map_append, hx]) <;> (try (with_reducible rfl)))
    ·by_cases hjk : j = k
     ·subst hjk; rw [hx]; exact h2
     ·exact hk2 j (by omega)
  ·(intro hc; first | replace hc := bT hc | skip)
   (refine x_go (zc @hcv @mapAp) ?_)
   obtain rfl : k = l.length := by omega
   have e1 := anyNoneLt hk2
   (first | exact x_ret (zc @hcv @mapAp) | refine x_retZ (zc @hcv @mapAp) ?_)
   rw [e1]; rfl
theorem containsFuncLt (l : List Lt) (g : FuncId) (caps : List AV) (p : Lt → Bool) (hg : Enters Tryz.prog g) (hk : okL 0 caps) (hcv : ∀ m, caps.map (view m) = caps ∧ caps.map (view2 m) = caps) (hp : ∀ x ∈ l, Pure Tryz.prog g (ltA x :: caps) (.bool (p x))) (hl : l.length ≤ 9223372036854775807) :
  Pure Tryz.prog 142 [.lst 3 (l.map ltA), .clo g caps] (.bool (l.any p)) := by
 (refine Spec.bd 0 Tryz.func142 Tryz.results142 Tryz.ntmps142 ?_; simp only [entry, zipArgs, Nat.reduceAdd])
 (refine x_go (zc @hcv @mapAp) ?_)
 (apply Run.pureP; (exact x_ev (zc @hcv @mapAp)); (exact (Enters.of Tryz.func174 rfl rfl)); (exact indexFuncLt l g caps p hg hk hcv hp hl); (exact x_al (zc @hcv @mapAp)); (try dsimp only [putA, optG]))
 (refine x_go (zc @hcv @mapAp) ?_)
 (first | exact x_ret (zc @hcv @mapAp) | refine x_retZ (zc @hcv @mapAp) ?_)
 split <;> simp_all
theorem memSe {l : List Se} {k : Nat} (h : k < l.length) : l.getD k se0 ∈ l := by simp [h]
theorem findSe {l : List Se} {p : Se → Bool} {k : Nat} (hk : k < l.length) (h1 : ∀ j, j < k → p (l.getD j se0) = false) (h2 : p (l.getD k se0) = true) : l.any p = true ∧ l.findIdx p = k := by
 have e : ∀ j (hj : j < l.length), l.getD j se0 = l[j] := fun j hj => by simp [hj]
 refine ⟨List.any_eq_true.2 ⟨l[k], List.getElem_mem hk, by rw [← e k hk]; exact h2⟩, ?_⟩
 rw [List.findIdx_eq hk]
 refine ⟨by rw [← e k hk]; exact h2, fun j hj => ?_⟩
 have := h1 j hj
 rw [e j (by omega)] at this
 exact this
theorem anyNoneSe {l : List Se} {p : Se → Bool} (h : ∀ j, j < l.length → p (l.getD j se0) = false) : l.any p = false := by
 rw [List.any_eq_false]
 intro x hx
 obtain ⟨i, hi, rfl⟩ := List.getElem_of_mem hx
 have := h i hi
 simp [hi] at this
 simp [this]
theorem indexFuncSe (l : List Se) (g : FuncId) (caps : List AV) (p : Se → Bool) (hg : Enters Tryz.prog g) (hk : okL 0 caps) (hcv : ∀ m, caps.map (view m) = caps ∧ caps.map (view2 m) = caps) (hp : ∀ x ∈ l, Pure Tryz.prog g (seA x :: caps) (.bool (p x))) (hl : l.length ≤ 9223372036854775807) :
  Pure Tryz.prog 178 [.lst 2 (l.map seA), .clo g caps] (.int (if l.any p then (l.findIdx p : Int) else -1)) := by
 (refine Spec.bd 0 Tryz.func178 Tryz.results178 Tryz.ntmps178 ?_; simp only [entry, zipArgs, Nat.reduceAdd])
 (refine x_go (zc @hcv @mapAp) ?_)
 refine Wp.loop (fun k : Nat => { t := [(0, .lst 2 (l.map seA)), (1, .clo g caps), (7, .int l.length), (8, .int k)], m := [], n := 19 }) (fun k => k ≤ l.length ∧ ∀ j, j < k → p (l.getD j se0) = false) (fun k => l.length - k) 0 ?_ ?_ ?_
 ·(refine Le.of ?_ ?_ rfl rfl <;> (try simp only [push_cast, seval, hcv, List.map_append]) <;> (try (with_reducible rfl)))
 ·simp
 ·rintro k ⟨hk1, hk2⟩
  (refine x_go (zc @hcv @mapAp) ?_)
  (apply Wp.cond; (exact x_ev (zc @hcv @mapAp)))
  ·(intro hc; first | replace hc := bT hc | skip)
   have hpk := hp _ (memSe hc)
   generalize hx : l.getD k se0 = x at hpk
   (refine x_go (zc @hcv (zc @mapAp @hx)) ?_)
   (apply Run.pureP; (exact x_ev (zc @hcv (zc @mapAp @hx))); (exact hg); (exact hpk); (exact x_al (zc @hcv (zc @mapAp @hx))); (try dsimp only [putA, optG]))
   (refine x_go (zc @hcv (zc @mapAp @hx)) ?_)
   (apply Wp.cond; (exact x_ev (zc @hcv (zc @mapAp @hx))))
   ·intro h2
    rw [← hx] at h2
    obtain ⟨e1, e2⟩ := findSe hc hk2 h2
    (refine x_go (zc @hcv (zc @mapAp @hx)) ?_)
    (first | exact x_ret (zc @hcv (zc @mapAp @hx)) | refine x_retZ (zc @hcv (zc @mapAp @hx)) ?_)
    rw [e1, e2]; rfl
   ·intro h2
    (refine x_go (zc @hcv (zc @mapAp @hx)) ?_)
    refine ⟨k + 1, ?_, ⟨by omega, fun j hj => ?_⟩, by omega⟩
    ·(refine Le.of ?_ ?_ rfl rfl <;> (try simp only [push_cast, seval, hcv, List.map_append, hx]) <;> (try (with_reducible rfl)))
    ·by_cases hjk : j = k
     ·subst hjk; rw [hx]; exact h2
     ·exact hk2 j (by omega)
  ·(intro hc; first | replace hc := bT hc | skip)
   (refine x_go (zc @hcv @mapAp) ?_)
   obtain rfl : k = l.length := by omega
   have e1 := anyNoneSe hk2
   (first | exact x_ret (zc @hcv @mapAp) | refine x_retZ (zc @hcv @mapAp) ?_)
   rw [e1]; rfl
theorem containsFuncSe (l : List Se) (g : FuncId) (caps : List AV) (p : Se → Bool) (hg : Enters Tryz.prog g) (hk : okL 0 caps) (hcv : ∀ m, caps.map (view m) = caps ∧ caps.map (view2 m) = caps) (hp : ∀ x ∈ l, Pure Tryz.prog g (seA x :: caps) (.bool (p x))) (hl : l.length ≤ 9223372036854775807) :
  Pure Tryz.prog 150 [.lst 2 (l.map seA), .clo g caps] (.bool (l.any p)) := by
 (refine Spec.bd 0 Tryz.func150 Tryz.results150 Tryz.ntmps150 ?_; simp only [entry, zipArgs, Nat.reduceAdd])
 (refine x_go (zc @hcv @mapAp) ?_)
 (apply Run.pureP; (exact x_ev (zc @hcv @mapAp)); (exact (Enters.of Tryz.func178 rfl rfl)); (exact indexFuncSe l g caps p hg hk hcv hp hl); (exact x_al (zc @hcv @mapAp)); (try dsimp only [putA, optG]))
 (refine x_go (zc @hcv @mapAp) ?_)
 (first | exact x_ret (zc @hcv @mapAp) | refine x_retZ (zc @hcv @mapAp) ?_)
 split <;> simp_all
theorem memI {l : List Int} {k : Nat} (h : k < l.length) : l.getD k 0 ∈ l := by simp [h]
theorem findI {l : List Int} {p : Int → Bool} {k : Nat} (hk : k < l.length) (h1 : ∀ j, j < k → p (l.getD j 0) = false) (h2 : p (l.getD k 0) = true) : l.any p = true ∧ l.findIdx p = k := by
 have e : ∀ j (hj : j < l.length), l.getD j 0 = l[j] := fun j hj => by simp [hj]
 refine ⟨List.any_eq_true.2 ⟨l[k], List.getElem_mem hk, by rw [← e k hk]; exact h2⟩, ?_⟩
 rw [List.findIdx_eq hk]
 refine ⟨by rw [← e k hk]; exact h2, fun j hj => ?_⟩
 have := h1 j hj
 rw [e j (by omega)] at this
 exact this
theorem anyNoneI {l : List Int} {p : Int → Bool} (h : ∀ j, j < l.length → p (l.getD j 0) = false) : l.any p = false := by
 rw [List.any_eq_false]
 intro x hx
 obtain ⟨i, hi, rfl⟩ := List.getElem_of_mem hx
 have := h i hi
 simp [hi] at this
 simp [this]
theorem indexFuncI (l : List Int) (g : FuncId) (caps : List AV) (p : Int → Bool) (hg : Enters Tryz.prog g) (hk : okL 0 caps) (hcv : ∀ m, caps.map (view m) = caps ∧ caps.map (view2 m) = caps) (hp : ∀ x ∈ l, Pure Tryz.prog g (AV.int x :: caps) (.bool (p x))) (hl : l.length ≤ 9223372036854775807) :
  Pure Tryz.prog 177 [.ints l, .clo g caps] (.int (if l.any p then (l.findIdx p : Int) else -1)) := by
 (refine Spec.bd 0 Tryz.func177 Tryz.results177 Tryz.ntmps177 ?_; simp only [entry, zipArgs, Nat.reduceAdd])
 (refine x_go (zc @hcv @mapAp) ?_)
 refine Wp.loop (fun k : Nat => { t := [(0, .ints l), (1, .clo g caps), (7, .int l.length), (8, .int k)], m := [], n := 19 }) (fun k => k ≤ l.length ∧ ∀ j, j < k → p (l.getD j 0) = false) (fun k => l.length - k) 0 ?_ ?_ ?_
 ·(refine Le.of ?_ ?_ rfl rfl <;> (try simp only [push_cast, seval, hcv, List.map_append]) <;> (try (with_reducible rfl)))
 ·simp
 ·rintro k ⟨hk1, hk2⟩
  (refine x_go (zc @hcv @mapAp) ?_)
  (apply Wp.cond; (exact x_ev (zc @hcv @mapAp)))
  ·(intro hc; first | replace hc := bT hc | skip)
   have hpk := hp _ (memI hc)
   generalize hx : l.getD k 0 = x at hpk
   (refine x_go (zc @hcv (zc @mapAp @hx)) ?_)
   (apply Run.pureP; (exact x_ev (zc @hcv (zc @mapAp @hx))); (exact hg); (exact hpk); (exact x_al (zc @hcv (zc @mapAp @hx))); (try dsimp only [putA, optG]))
   (refine x_go (zc @hcv (zc @mapAp @hx)) ?_)
   (apply Wp.cond; (exact x_ev (zc @hcv (zc @mapAp @hx))))
   ·intro h2
    rw [← hx] at h2
    obtain ⟨e1, e2⟩ := findI hc hk2 h2
    (refine x_go (zc @hcv (zc @mapAp @hx)) ?_)
    (first | exact x_ret (zc @hcv (zc @mapAp @hx)) | refine x_retZ (zc @hcv (zc @mapAp @hx)) ?_)
    rw [e1, e2]; rfl
   ·intro h2
    (refine x_go (zc @hcv (zc @mapAp @hx)) ?_)
    refine ⟨k + 1, ?_, ⟨by omega, fun j hj => ?_⟩, by omega⟩
    ·(refine Le.of ?_ ?_ rfl rfl <;> (try simp only [push_cast, seval, hcv, List.map_append, hx]) <;> (try (with_reducible rfl)))
    ·by_cases hjk : j = k
     ·subst hjk; rw [hx]; exact h2
     ·exact hk2 j (by omega)
  ·(intro hc; first | replace hc := bT hc | skip)
   (refine x_go (zc @hcv @mapAp) ?_)
   obtain rfl : k = l.length := by omega
   have e1 := anyNoneI hk2
   (first | exact x_ret (zc @hcv @mapAp) | refine x_retZ (zc @hcv @mapAp) ?_)
   rw [e1]; rfl
theorem containsFuncI (l : List Int) (g : FuncId) (caps : List AV) (p : Int → Bool) (hg : Enters Tryz.prog g) (hk : okL 0 caps) (hcv : ∀ m, caps.map (view m) = caps ∧ caps.map (view2 m) = caps) (hp : ∀ x ∈ l, Pure Tryz.prog g (AV.int x :: caps) (.bool (p x))) (hl : l.length ≤ 9223372036854775807) :
  Pure Tryz.prog 149 [.ints l, .clo g caps] (.bool (l.any p)) := by
 (refine Spec.bd 0 Tryz.func149 Tryz.results149 Tryz.ntmps149 ?_; simp only [entry, zipArgs, Nat.reduceAdd])
 (refine x_go (zc @hcv @mapAp) ?_)
 (apply Run.pureP; (exact x_ev (zc @hcv @mapAp)); (exact (Enters.of Tryz.func177 rfl rfl)); (exact indexFuncI l g caps p hg hk hcv hp hl); (exact x_al (zc @hcv @mapAp)); (try dsimp only [putA, optG]))
 (refine x_go (zc @hcv @mapAp) ?_)
 (first | exact x_ret (zc @hcv @mapAp) | refine x_retZ (zc @hcv @mapAp) ?_)
 split <;> simp_all
theorem memAu {l : List Au} {k : Nat} (h : k < l.length) : l.getD k au0 ∈ l := by simp [h]
theorem findAu {l : List Au} {p : Au → Bool} {k : Nat} (hk : k < l.length) (h1 : ∀ j, j < k → p (l.getD j au0) = false) (h2 : p (l.getD k au0) = true) : l.any p = true ∧ l.findIdx p = k := by
 have e : ∀ j (hj : j < l.length), l.getD j au0 = l[j] := fun j hj => by simp [hj]
 refine ⟨List.any_eq_true.2 ⟨l[k], List.getElem_mem hk, by rw [← e k hk]; exact h2⟩, ?_⟩
 rw [List.findIdx_eq hk]
 refine ⟨by rw [← e k hk]; exact h2, fun j hj => ?_⟩
 have := h1 j hj
 rw [e j (by omega)] at this
 exact this
theorem anyNoneAu {l : List Au} {p : Au → Bool} (h : ∀ j, j < l.length → p (l.getD j au0) = false) : l.any p = false := by
 rw [List.any_eq_false]
 intro x hx
 obtain ⟨i, hi, rfl⟩ := List.getElem_of_mem hx
 have := h i hi
 simp [hi] at this
 simp [this]
theorem indexFuncAu (l : List Au) (g : FuncId) (caps : List AV) (p : Au → Bool) (hg : Enters Tryz.prog g) (hk : okL 0 caps) (hcv : ∀ m, caps.map (view m) = caps ∧ caps.map (view2 m) = caps) (hp : ∀ x ∈ l, Pure Tryz.prog g (auA x :: caps) (.bool (p x))) (hl : l.length ≤ 9223372036854775807) :
  Pure Tryz.prog 152 [.lst 3 (l.map auA), .clo g caps] (.int (if l.any p then (l.findIdx p : Int) else -1)) := by
 (refine Spec.bd 0 Tryz.func152 Tryz.results152 Tryz.ntmps152 ?_; simp only [entry, zipArgs, Nat.reduceAdd])
 (refine x_go (zc @hcv @mapAp) ?_)
 refine Wp.loop (fun k : Nat => { t := [(0, .lst 3 (l.map auA)), (1, .clo g caps), (7, .int l.length), (8, .int k)], m := [], n := 19 }) (fun k => k ≤ l.length ∧ ∀ j, j < k → p (l.getD j au0) = false) (fun k => l.length - k) 0 ?_ ?_ ?_
 ·(refine Le.of ?_ ?_ rfl rfl <;> (try simp only [push_cast, seval, hcv, List.map_append]) <;> (try (with_reducible rfl)))
 ·simp
 ·rintro k ⟨hk1, hk2⟩
  (refine x_go (zc @hcv @mapAp) ?_)
  (apply Wp.cond; (exact x_ev (zc @hcv @mapAp)))
  ·(intro hc; first | replace hc := bT hc | skip)
   have hpk := hp _ (memAu hc)
   generalize hx : l.getD k au0 = x at hpk
   (refine x_go (zc @hcv (zc @mapAp (zc @hx (zc (fun d => getD_au (d := d) hc) @auA.eq_1)))) ?_)
   (apply Run.pureP; (exact x_ev (zc @hcv (zc @mapAp (zc @hx (zc (fun d => getD_au (d := d) hc) @auA.eq_1))))); (exact hg); (exact hpk); (exact x_al (zc @hcv (zc @mapAp (zc @hx (zc (fun d => getD_au (d := d) hc) @auA.eq_1))))); (try dsimp only [putA, optG]))
   (refine x_go (zc @hcv (zc @mapAp (zc @hx (zc (fun d => getD_au (d := d) hc) @auA.eq_1)))) ?_)
   (apply Wp.cond; (exact x_ev (zc @hcv (zc @mapAp (zc @hx (zc (fun d => getD_au (d := d) hc) @auA.eq_1))))))
   ·intro h2
    rw [← hx] at h2
    obtain ⟨e1, e2⟩ := findAu hc hk2 h2
    (refine x_go (zc @hcv (zc @mapAp (zc @hx (zc (fun d => getD_au (d := d) hc) @auA.eq_1)))) ?_)
    (first | exact x_ret (zc @hcv (zc @mapAp (zc @hx (zc (fun d => getD_au (d := d) hc) @auA.eq_1)))) | refine x_retZ (zc @hcv (zc @mapAp (zc @hx (zc (fun d => getD_au (d := d) hc) @auA.eq_1)))) ?_)
    rw [e1, e2]; rfl
   ·intro h2
    (refine x_go (zc @hcv (zc @mapAp (zc @hx (zc (fun d => getD_au (d := d) hc) @auA.eq_1)))) ?_)
    refine ⟨k + 1, ?_, ⟨by omega, fun j hj => ?_⟩, by omega⟩
    ·(refine Le.of ?_ ?_ rfl rfl <;> (try simp only [push_cast, seval, hcv, List.map_append, hx, getD_au hc, auA]) <;> (try (with_reducible rfl)))
    ·by_cases hjk : j = k
     ·subst hjk; rw [hx]; exact h2
     ·exact hk2 j (by omega)
  ·(intro hc; first | replace hc := bT hc | skip)
   (refine x_go (zc @hcv @mapAp) ?_)
   obtain rfl : k = l.length := by omega
   have e1 := anyNoneAu hk2
   (first | exact x_ret (zc @hcv @mapAp) | refine x_retZ (zc @hcv @mapAp) ?_)
   rw [e1]; rfl
theorem memSr {l : List ByteArray} {k : Nat} (h : k < l.length) : l.getD k .empty ∈ l := by simp [h]
theorem findSr {l : List ByteArray} {p : ByteArray → Bool} {k : Nat} (hk : k < l.length) (h1 : ∀ j, j < k → p (l.getD j .empty) = false) (h2 : p (l.getD k .empty) = true) : l.any p = true ∧ l.findIdx p = k := by
 have e : ∀ j (hj : j < l.length), l.getD j .empty = l[j] := fun j hj => by simp [hj]
 refine ⟨List.any_eq_true.2 ⟨l[k], List.getElem_mem hk, by rw [← e k hk]; exact h2⟩, ?_⟩
 rw [List.findIdx_eq hk]
 refine ⟨by rw [← e k hk]; exact h2, fun j hj => ?_⟩
 have := h1 j hj
 rw [e j (by omega)] at this
 exact this
theorem anyNoneSr {l : List ByteArray} {p : ByteArray → Bool} (h : ∀ j, j < l.length → p (l.getD j .empty) = false) : l.any p = false := by
 rw [List.any_eq_false]
 intro x hx
 obtain ⟨i, hi, rfl⟩ := List.getElem_of_mem hx
 have := h i hi
 simp [hi] at this
 simp [this]
theorem indexFuncSr (l : List ByteArray) (g : FuncId) (caps : List AV) (p : ByteArray → Bool) (hg : Enters Tryz.prog g) (hk : okL 0 caps) (hcv : ∀ m, caps.map (view m) = caps ∧ caps.map (view2 m) = caps) (hp : ∀ x ∈ l, Pure Tryz.prog g (AV.str x :: caps) (.bool (p x))) (hl : l.length ≤ 9223372036854775807) :
  Pure Tryz.prog 168 [.strs l, .clo g caps] (.int (if l.any p then (l.findIdx p : Int) else -1)) := by
 (refine Spec.bd 0 Tryz.func168 Tryz.results168 Tryz.ntmps168 ?_; simp only [entry, zipArgs, Nat.reduceAdd])
 (refine x_go (zc @hcv @mapAp) ?_)
 refine Wp.loop (fun k : Nat => { t := [(0, .strs l), (1, .clo g caps), (7, .int l.length), (8, .int k)], m := [], n := 19 }) (fun k => k ≤ l.length ∧ ∀ j, j < k → p (l.getD j .empty) = false) (fun k => l.length - k) 0 ?_ ?_ ?_
 ·(refine Le.of ?_ ?_ rfl rfl <;> (try simp only [push_cast, seval, hcv, List.map_append]) <;> (try (with_reducible rfl)))
 ·simp
 ·rintro k ⟨hk1, hk2⟩
  (refine x_go (zc @hcv @mapAp) ?_)
  (apply Wp.cond; (exact x_ev (zc @hcv @mapAp)))
  ·(intro hc; first | replace hc := bT hc | skip)
   have hpk := hp _ (memSr hc)
   generalize hx : l.getD k .empty = x at hpk
   (refine x_go (zc @hcv (zc @mapAp @hx)) ?_)
   (apply Run.pureP; (exact x_ev (zc @hcv (zc @mapAp @hx))); (exact hg); (exact hpk); (exact x_al (zc @hcv (zc @mapAp @hx))); (try dsimp only [putA, optG]))
   (refine x_go (zc @hcv (zc @mapAp @hx)) ?_)
   (apply Wp.cond; (exact x_ev (zc @hcv (zc @mapAp @hx))))
   ·intro h2
    rw [← hx] at h2
    obtain ⟨e1, e2⟩ := findSr hc hk2 h2
    (refine x_go (zc @hcv (zc @mapAp @hx)) ?_)
    (first | exact x_ret (zc @hcv (zc @mapAp @hx)) | refine x_retZ (zc @hcv (zc @mapAp @hx)) ?_)
    rw [e1, e2]; rfl
   ·intro h2
    (refine x_go (zc @hcv (zc @mapAp @hx)) ?_)
    refine ⟨k + 1, ?_, ⟨by omega, fun j hj => ?_⟩, by omega⟩
    ·(refine Le.of ?_ ?_ rfl rfl <;> (try simp only [push_cast, seval, hcv, List.map_append, hx]) <;> (try (with_reducible rfl)))
    ·by_cases hjk : j = k
     ·subst hjk; rw [hx]; exact h2
     ·exact hk2 j (by omega)
  ·(intro hc; first | replace hc := bT hc | skip)
   (refine x_go (zc @hcv @mapAp) ?_)
   obtain rfl : k = l.length := by omega
   have e1 := anyNoneSr hk2
   (first | exact x_ret (zc @hcv @mapAp) | refine x_retZ (zc @hcv @mapAp) ?_)
   rw [e1]; rfl
theorem memTh {l : List Th} {k : Nat} (h : k < l.length) : l.getD k th0 ∈ l := by simp [h]
theorem findTh {l : List Th} {p : Th → Bool} {k : Nat} (hk : k < l.length) (h1 : ∀ j, j < k → p (l.getD j th0) = false) (h2 : p (l.getD k th0) = true) : l.any p = true ∧ l.findIdx p = k := by
 have e : ∀ j (hj : j < l.length), l.getD j th0 = l[j] := fun j hj => by simp [hj]
 refine ⟨List.any_eq_true.2 ⟨l[k], List.getElem_mem hk, by rw [← e k hk]; exact h2⟩, ?_⟩
 rw [List.findIdx_eq hk]
 refine ⟨by rw [← e k hk]; exact h2, fun j hj => ?_⟩
 have := h1 j hj
 rw [e j (by omega)] at this
 exact this
theorem anyNoneTh {l : List Th} {p : Th → Bool} (h : ∀ j, j < l.length → p (l.getD j th0) = false) : l.any p = false := by
 rw [List.any_eq_false]
 intro x hx
 obtain ⟨i, hi, rfl⟩ := List.getElem_of_mem hx
 have := h i hi
 simp [hi] at this
 simp [this]
theorem indexFuncTh (l : List Th) (g : FuncId) (caps : List AV) (p : Th → Bool) (hg : Enters Tryz.prog g) (hk : okL 0 caps) (hcv : ∀ m, caps.map (view m) = caps ∧ caps.map (view2 m) = caps) (hp : ∀ x ∈ l, Pure Tryz.prog g (thA x :: caps) (.bool (p x))) (hl : l.length ≤ 9223372036854775807) :
  Pure Tryz.prog 170 [.lst 4 (l.map thA), .clo g caps] (.int (if l.any p then (l.findIdx p : Int) else -1)) := by
 (refine Spec.bd 0 Tryz.func170 Tryz.results170 Tryz.ntmps170 ?_; simp only [entry, zipArgs, Nat.reduceAdd])
 (refine x_go (zc @hcv @mapAp) ?_)
 refine Wp.loop (fun k : Nat => { t := [(0, .lst 4 (l.map thA)), (1, .clo g caps), (7, .int l.length), (8, .int k)], m := [], n := 19 }) (fun k => k ≤ l.length ∧ ∀ j, j < k → p (l.getD j th0) = false) (fun k => l.length - k) 0 ?_ ?_ ?_
 ·(refine Le.of ?_ ?_ rfl rfl <;> (try simp only [push_cast, seval, hcv, List.map_append]) <;> (try (with_reducible rfl)))
 ·simp
 ·rintro k ⟨hk1, hk2⟩
  (refine x_go (zc @hcv @mapAp) ?_)
  (apply Wp.cond; (exact x_ev (zc @hcv @mapAp)))
  ·(intro hc; first | replace hc := bT hc | skip)
   have hpk := hp _ (memTh hc)
   generalize hx : l.getD k th0 = x at hpk
   (refine x_go (zc @hcv (zc @mapAp @hx)) ?_)
   (apply Run.pureP; (exact x_ev (zc @hcv (zc @mapAp @hx))); (exact hg); (exact hpk); (exact x_al (zc @hcv (zc @mapAp @hx))); (try dsimp only [putA, optG]))
   (refine x_go (zc @hcv (zc @mapAp @hx)) ?_)
   (apply Wp.cond; (exact x_ev (zc @hcv (zc @mapAp @hx))))
   ·intro h2
    rw [← hx] at h2
    obtain ⟨e1, e2⟩ := findTh hc hk2 h2
    (refine x_go (zc @hcv (zc @mapAp @hx)) ?_)
    (first | exact x_ret (zc @hcv (zc @mapAp @hx)) | refine x_retZ (zc @hcv (zc @mapAp @hx)) ?_)
    rw [e1, e2]; rfl
   ·intro h2
    (refine x_go (zc @hcv (zc @mapAp @hx)) ?_)
    refine ⟨k + 1, ?_, ⟨by omega, fun j hj => ?_⟩, by omega⟩
    ·(refine Le.of ?_ ?_ rfl rfl <;> (try simp only [push_cast, seval, hcv, List.map_append, hx]) <;> (try (with_reducible rfl)))
    ·by_cases hjk : j = k
     ·subst hjk; rw [hx]; exact h2
     ·exact hk2 j (by omega)
  ·(intro hc; first | replace hc := bT hc | skip)
   (refine x_go (zc @hcv @mapAp) ?_)
   obtain rfl : k = l.length := by omega
   have e1 := anyNoneTh hk2
   (first | exact x_ret (zc @hcv @mapAp) | refine x_retZ (zc @hcv @mapAp) ?_)
   rw [e1]; rfl
theorem memPp {l : List Pp} {k : Nat} (h : k < l.length) : l.getD k pp0 ∈ l := by simp [h]
theorem findPp {l : List Pp} {p : Pp → Bool} {k : Nat} (hk : k < l.length) (h1 : ∀ j, j < k → p (l.getD j pp0) = false) (h2 : p (l.getD k pp0) = true) : l.any p = true ∧ l.findIdx p = k := by
 have e : ∀ j (hj : j < l.length), l.getD j pp0 = l[j] := fun j hj => by simp [hj]
 refine ⟨List.any_eq_true.2 ⟨l[k], List.getElem_mem hk, by rw [← e k hk]; exact h2⟩, ?_⟩
 rw [List.findIdx_eq hk]
 refine ⟨by rw [← e k hk]; exact h2, fun j hj => ?_⟩
 have := h1 j hj
 rw [e j (by omega)] at this
 exact this
theorem anyNonePp {l : List Pp} {p : Pp → Bool} (h : ∀ j, j < l.length → p (l.getD j pp0) = false) : l.any p = false := by
 rw [List.any_eq_false]
 intro x hx
 obtain ⟨i, hi, rfl⟩ := List.getElem_of_mem hx
 have := h i hi
 simp [hi] at this
 simp [this]
theorem indexFuncPp (l : List Pp) (g : FuncId) (caps : List AV) (p : Pp → Bool) (hg : Enters Tryz.prog g) (hk : okL 0 caps) (hcv : ∀ m, caps.map (view m) = caps ∧ caps.map (view2 m) = caps) (hp : ∀ x ∈ l, Pure Tryz.prog g (ppA x :: caps) (.bool (p x))) (hl : l.length ≤ 9223372036854775807) :
  Pure Tryz.prog 172 [.lst 3 (l.map ppA), .clo g caps] (.int (if l.any p then (l.findIdx p : Int) else -1)) := by
 (refine Spec.bd 0 Tryz.func172 Tryz.results172 Tryz.ntmps172 ?_; simp only [entry, zipArgs, Nat.reduceAdd])
 (refine x_go (zc @hcv @mapAp) ?_)
 refine Wp.loop (fun k : Nat => { t := [(0, .lst 3 (l.map ppA)), (1, .clo g caps), (7, .int l.length), (8, .int k)], m := [], n := 19 }) (fun k => k ≤ l.length ∧ ∀ j, j < k → p (l.getD j pp0) = false) (fun k => l.length - k) 0 ?_ ?_ ?_
 ·(refine Le.of ?_ ?_ rfl rfl <;> (try simp only [push_cast, seval, hcv, List.map_append]) <;> (try (with_reducible rfl)))
 ·simp
 ·rintro k ⟨hk1, hk2⟩
  (refine x_go (zc @hcv @mapAp) ?_)
  (apply Wp.cond; (exact x_ev (zc @hcv @mapAp)))
  ·(intro hc; first | replace hc := bT hc | skip)
   have hpk := hp _ (memPp hc)
   generalize hx : l.getD k pp0 = x at hpk
   (refine x_go (zc @hcv (zc @mapAp (zc @hx (zc (fun d => getD_pp (d := d) hc) @ppA.eq_1)))) ?_)
   (apply Run.pureP; (exact x_ev (zc @hcv (zc @mapAp (zc @hx (zc (fun d => getD_pp (d := d) hc) @ppA.eq_1))))); (exact hg); (exact hpk); (exact x_al (zc @hcv (zc @mapAp (zc @hx (zc (fun d => getD_pp (d := d) hc) @ppA.eq_1))))); (try dsimp only [putA, optG]))
   (refine x_go (zc @hcv (zc @mapAp (zc @hx (zc (fun d => getD_pp (d := d) hc) @ppA.eq_1)))) ?_)
   (apply Wp.cond; (exact x_ev (zc @hcv (zc @mapAp (zc @hx (zc (fun d => getD_pp (d := d) hc) @ppA.eq_1))))))
   ·intro h2
    rw [← hx] at h2
    obtain ⟨e1, e2⟩ := findPp hc hk2 h2
    (refine x_go (zc @hcv (zc @mapAp (zc @hx (zc (fun d => getD_pp (d := d) hc) @ppA.eq_1)))) ?_)
    (first | exact x_ret (zc @hcv (zc @mapAp (zc @hx (zc (fun d => getD_pp (d := d) hc) @ppA.eq_1)))) | refine x_retZ (zc @hcv (zc @mapAp (zc @hx (zc (fun d => getD_pp (d := d) hc) @ppA.eq_1)))) ?_)
    rw [e1, e2]; rfl
   ·intro h2
    (refine x_go (zc @hcv (zc @mapAp (zc @hx (zc (fun d => getD_pp (d := d) hc) @ppA.eq_1)))) ?_)
    refine ⟨k + 1, ?_, ⟨by omega, fun j hj => ?_⟩, by omega⟩
    ·(refine Le.of ?_ ?_ rfl rfl <;> (try simp only [push_cast, seval, hcv, List.map_append, hx, getD_pp hc, ppA]) <;> (try (with_reducible rfl)))
    ·by_cases hjk : j = k
     ·subst hjk; rw [hx]; exact h2
     ·exact hk2 j (by omega)
  ·(intro hc; first | replace hc := bT hc | skip)
   (refine x_go (zc @hcv @mapAp) ?_)
   obtain rfl : k = l.length := by omega
   have e1 := anyNonePp hk2
   (first | exact x_ret (zc @hcv @mapAp) | refine x_retZ (zc @hcv @mapAp) ?_)
   rw [e1]; rfl
theorem memAc {l : List Ac} {k : Nat} (h : k < l.length) : l.getD k ac0 ∈ l := by simp [h]
theorem findAc {l : List Ac} {p : Ac → Bool} {k : Nat} (hk : k < l.length) (h1 : ∀ j, j < k → p (l.getD j ac0) = false) (h2 : p (l.getD k ac0) = true) : l.any p = true ∧ l.findIdx p = k := by
 have e : ∀ j (hj : j < l.length), l.getD j ac0 = l[j] := fun j hj => by simp [hj]
 refine ⟨List.any_eq_true.2 ⟨l[k], List.getElem_mem hk, by rw [← e k hk]; exact h2⟩, ?_⟩
 rw [List.findIdx_eq hk]
 refine ⟨by rw [← e k hk]; exact h2, fun j hj => ?_⟩
 have := h1 j hj
 rw [e j (by omega)] at this
 exact this
theorem anyNoneAc {l : List Ac} {p : Ac → Bool} (h : ∀ j, j < l.length → p (l.getD j ac0) = false) : l.any p = false := by
 rw [List.any_eq_false]
 intro x hx
 obtain ⟨i, hi, rfl⟩ := List.getElem_of_mem hx
 have := h i hi
 simp [hi] at this
 simp [this]
theorem indexFuncAc (l : List Ac) (g : FuncId) (caps : List AV) (p : Ac → Bool) (hg : Enters Tryz.prog g) (hk : okL 0 caps) (hcv : ∀ m, caps.map (view m) = caps ∧ caps.map (view2 m) = caps) (hp : ∀ x ∈ l, Pure Tryz.prog g (acA x :: caps) (.bool (p x))) (hl : l.length ≤ 9223372036854775807) :
  Pure Tryz.prog 183 [.lst 8 (l.map acA), .clo g caps] (.int (if l.any p then (l.findIdx p : Int) else -1)) := by
 (refine Spec.bd 0 Tryz.func183 Tryz.results183 Tryz.ntmps183 ?_; simp only [entry, zipArgs, Nat.reduceAdd])
 (refine x_go (zc @hcv @mapAp) ?_)
 refine Wp.loop (fun k : Nat => { t := [(0, .lst 8 (l.map acA)), (1, .clo g caps), (7, .int l.length), (8, .int k)], m := [], n := 19 }) (fun k => k ≤ l.length ∧ ∀ j, j < k → p (l.getD j ac0) = false) (fun k => l.length - k) 0 ?_ ?_ ?_
 ·(refine Le.of ?_ ?_ rfl rfl <;> (try simp only [push_cast, seval, hcv, List.map_append]) <;> (try (with_reducible rfl)))
 ·simp
 ·rintro k ⟨hk1, hk2⟩
  (refine x_go (zc @hcv @mapAp) ?_)
  (apply Wp.cond; (exact x_ev (zc @hcv @mapAp)))
  ·(intro hc; first | replace hc := bT hc | skip)
   have hpk := hp _ (memAc hc)
   generalize hx : l.getD k ac0 = x at hpk
   (refine x_go (zc @hcv (zc @mapAp (zc @hx (zc (fun d => getD_ac (d := d) hc) (zc @acA.eq_1 @acC.eq_1))))) ?_)
   (apply Run.pureP; (exact x_ev (zc @hcv (zc @mapAp (zc @hx (zc (fun d => getD_ac (d := d) hc) (zc @acA.eq_1 @acC.eq_1)))))); (exact hg); (exact hpk); (exact x_al (zc @hcv (zc @mapAp (zc @hx (zc (fun d => getD_ac (d := d) hc) (zc @acA.eq_1 @acC.eq_1)))))); (try dsimp only [putA, optG]))
   (refine x_go (zc @hcv (zc @mapAp (zc @hx (zc (fun d => getD_ac (d := d) hc) (zc @acA.eq_1 @acC.eq_1))))) ?_)
   (apply Wp.cond; (exact x_ev (zc @hcv (zc @mapAp (zc @hx (zc (fun d => getD_ac (d := d) hc) (zc @acA.eq_1 @acC.eq_1)))))))
   ·intro h2
    rw [← hx] at h2
    obtain ⟨e1, e2⟩ := findAc hc hk2 h2
    (refine x_go (zc @hcv (zc @mapAp (zc @hx (zc (fun d => getD_ac (d := d) hc) (zc @acA.eq_1 @acC.eq_1))))) ?_)
    (first | exact x_ret (zc @hcv (zc @mapAp (zc @hx (zc (fun d => getD_ac (d := d) hc) (zc @acA.eq_1 @acC.eq_1))))) | refine x_retZ (zc @hcv (zc @mapAp (zc @hx (zc (fun d => getD_ac (d := d) hc) (zc @acA.eq_1 @acC.eq_1))))) ?_)
    rw [e1, e2]; rfl
   ·intro h2
    (refine x_go (zc @hcv (zc @mapAp (zc @hx (zc (fun d => getD_ac (d := d) hc) (zc @acA.eq_1 @acC.eq_1))))) ?_)
    refine ⟨k + 1, ?_, ⟨by omega, fun j hj => ?_⟩, by omega⟩
    ·(refine Le.of ?_ ?_ rfl rfl <;> (try simp only [push_cast, seval, hcv, List.map_append, hx, getD_ac hc, acA, acC]) <;> (try (with_reducible rfl)))
    ·by_cases hjk : j = k
     ·subst hjk; rw [hx]; exact h2
     ·exact hk2 j (by omega)
  ·(intro hc; first | replace hc := bT hc | skip)
   (refine x_go (zc @hcv @mapAp) ?_)
   obtain rfl : k = l.length := by omega
   have e1 := anyNoneAc hk2
   (first | exact x_ret (zc @hcv @mapAp) | refine x_retZ (zc @hcv @mapAp) ?_)
   rw [e1]; rfl
theorem within_pure (n lo hi : Int) : Pure Tryz.prog 106 [.int n, .int lo, .int hi] (.bool (wi n lo hi)) := by
 (refine Spec.bd 0 Tryz.func106 Tryz.results106 Tryz.ntmps106 ?_; simp only [entry, zipArgs, Nat.reduceAdd])
 (refine w_go ?_)
 (first | exact w_ret | refine w_retZ ?_)
theorem within2_pure (n lo hi : Int) : Pure Tryz.prog 67 [.int n, .int lo, .int hi] (.bool (wi n lo hi)) := by
 (refine Spec.bd 0 Tryz.func67 Tryz.results67 Tryz.ntmps67 ?_; simp only [entry, zipArgs, Nat.reduceAdd])
 (refine w_go ?_)
 (first | exact w_ret | refine w_retZ ?_)
theorem from_pure (n lo hi : Int) : Pure Tryz.prog 83 [.int n, .int lo, .int hi] (.bool (wi n lo hi)) := by
 (refine Spec.bd 0 Tryz.func83 Tryz.results83 Tryz.ntmps83 ?_; simp only [entry, zipArgs, Nat.reduceAdd])
 (refine w_go ?_)
 (first | exact w_ret | refine w_retZ ?_)
theorem placeName_pure (t : ByteArray) : Pure Tryz.prog 111 [.str t] (.str t) := by
 (refine Spec.bd 0 Tryz.func111 Tryz.results111 Tryz.ntmps111 ?_; simp only [entry, zipArgs, Nat.reduceAdd])
 (refine w_go ?_)
 (first | exact w_ret | refine w_retZ ?_)
theorem thingName_pure (x : Th) : Pure Tryz.prog 113 [thA x] (.str x.nm) := by
 (refine Spec.bd 0 Tryz.func113 Tryz.results113 Tryz.ntmps113 ?_; simp only [entry, zipArgs, Nat.reduceAdd])
 (refine w_go ?_)
 (first | exact w_ret | refine w_retZ ?_)
theorem propName_pure (x : Pp) : Pure Tryz.prog 115 [ppA x] (.str x.nm) := by
 unfold ppA
 (refine Spec.bd 0 Tryz.func115 Tryz.results115 Tryz.ntmps115 ?_; simp only [entry, zipArgs, Nat.reduceAdd])
 (refine w_go ?_)
 (first | exact w_ret | refine w_retZ ?_)
theorem actName_pure (x : Ac) : Pure Tryz.prog 144 [acA x] (.str x.nm) := by
 unfold acA acC
 (refine Spec.bd 0 Tryz.func144 Tryz.results144 Tryz.ntmps144 ?_; simp only [entry, zipArgs, Nat.reduceAdd])
 (refine w_go ?_)
 (first | exact w_ret | refine w_retZ ?_)
theorem find1Sr_pure (x : ByteArray) (t : ByteArray) : Pure Tryz.prog 169 [.str x, .ref [.clo 111 []] 0, .ref [.str t] 0] (.bool (decide (x = t))) := by
 have hkx := placeName_pure x
 (refine Spec.bd 0 Tryz.func169 Tryz.results169 Tryz.ntmps169 ?_; simp only [entry, zipArgs, Nat.reduceAdd])
 (refine w_go ?_)
 (refine Wp.rnD 6 ?_; apply exAb; (((refine w_abn ?_); (apply Abn.pureFP; (exact w_ev); (exact (Enters.of Tryz.func111 rfl rfl)); (exact hkx); (exact w_al); (try dsimp only [putA, optG])); (refine w_abn ?_)); exact Abn.nil))
 (refine w_go ?_)
 (first | exact w_ret | refine w_retZ ?_)
theorem findSr_pure (l : List ByteArray) (t : ByteArray) (hl : l.length ≤ 9223372036854775807) : Pure Tryz.prog 138 [.strs l, .str t, .clo 111 []] (.int (if l.any (fun x => decide (x = t)) then (l.findIdx (fun x => decide (x = t)) : Int) else -1)) := by
 have hcf := indexFuncSr l 169 [.ref [.clo 111 []] 0, .ref [.str t] 0] (fun x => decide (x = t)) (Enters.of Tryz.func169 rfl rfl) (by simp [okL, AV.ok]) (fun m => ⟨rfl, rfl⟩) (fun x hx => find1Sr_pure x t) hl
 (refine Spec.bd 0 Tryz.func138 Tryz.results138 Tryz.ntmps138 ?_; simp only [entry, zipArgs, Nat.reduceAdd])
 ((refine w_pre ?_); (iterate 3 (refine w_nr ?_)); (refine w_nil ?_))
 (refine w_fzP (slq 4) ?_)
 (refine w_fzP (slq 5) ?_)
 (refine w_go ?_)
 (apply Run.pureP; (exact w_ev); (exact (Enters.of Tryz.func168 rfl rfl)); (exact hcf); (exact w_al); (try dsimp only [putA, optG]))
 (refine w_go ?_)
 (first | exact w_ret | refine w_retZ ?_)
theorem find1Th_pure (x : Th) (t : ByteArray) : Pure Tryz.prog 171 [thA x, .ref [.clo 113 []] 0, .ref [.str t] 0] (.bool (decide (x.nm = t))) := by
 have hkx := thingName_pure x
 unfold thA at *
 (refine Spec.bd 0 Tryz.func171 Tryz.results171 Tryz.ntmps171 ?_; simp only [entry, zipArgs, Nat.reduceAdd])
 (refine w_go ?_)
 (refine Wp.rnD 6 ?_; apply exAb; (((refine w_abn ?_); (apply Abn.pureFP; (exact w_ev); (exact (Enters.of Tryz.func113 rfl rfl)); (exact hkx); (exact w_al); (try dsimp only [putA, optG])); (refine w_abn ?_)); exact Abn.nil))
 (refine w_go ?_)
 (first | exact w_ret | refine w_retZ ?_)
theorem findTh_pure (l : List Th) (t : ByteArray) (hl : l.length ≤ 9223372036854775807) : Pure Tryz.prog 139 [.lst 4 (l.map thA), .str t, .clo 113 []] (.int (if l.any (fun x => decide (x.nm = t)) then (l.findIdx (fun x => decide (x.nm = t)) : Int) else -1)) := by
 have hcf := indexFuncTh l 171 [.ref [.clo 113 []] 0, .ref [.str t] 0] (fun x => decide (x.nm = t)) (Enters.of Tryz.func171 rfl rfl) (by simp [okL, AV.ok]) (fun m => ⟨rfl, rfl⟩) (fun x hx => find1Th_pure x t) hl
 (refine Spec.bd 0 Tryz.func139 Tryz.results139 Tryz.ntmps139 ?_; simp only [entry, zipArgs, Nat.reduceAdd])
 ((refine w_pre ?_); (iterate 3 (refine w_nr ?_)); (refine w_nil ?_))
 (refine w_fzP (slq 4) ?_)
 (refine w_fzP (slq 5) ?_)
 (refine w_go ?_)
 (apply Run.pureP; (exact w_ev); (exact (Enters.of Tryz.func170 rfl rfl)); (exact hcf); (exact w_al); (try dsimp only [putA, optG]))
 (refine w_go ?_)
 (first | exact w_ret | refine w_retZ ?_)
theorem find1Pp_pure (x : Pp) (t : ByteArray) : Pure Tryz.prog 173 [ppA x, .ref [.clo 115 []] 0, .ref [.str t] 0] (.bool (decide (x.nm = t))) := by
 have hkx := propName_pure x
 unfold ppA at *
 (refine Spec.bd 0 Tryz.func173 Tryz.results173 Tryz.ntmps173 ?_; simp only [entry, zipArgs, Nat.reduceAdd])
 (refine w_go ?_)
 (refine Wp.rnD 6 ?_; apply exAb; (((refine w_abn ?_); (apply Abn.pureFP; (exact w_ev); (exact (Enters.of Tryz.func115 rfl rfl)); (exact hkx); (exact w_al); (try dsimp only [putA, optG])); (refine w_abn ?_)); exact Abn.nil))
 (refine w_go ?_)
 (first | exact w_ret | refine w_retZ ?_)
theorem findPp_pure (l : List Pp) (t : ByteArray) (hl : l.length ≤ 9223372036854775807) : Pure Tryz.prog 140 [.lst 3 (l.map ppA), .str t, .clo 115 []] (.int (if l.any (fun x => decide (x.nm = t)) then (l.findIdx (fun x => decide (x.nm = t)) : Int) else -1)) := by
 have hcf := indexFuncPp l 173 [.ref [.clo 115 []] 0, .ref [.str t] 0] (fun x => decide (x.nm = t)) (Enters.of Tryz.func173 rfl rfl) (by simp [okL, AV.ok]) (fun m => ⟨rfl, rfl⟩) (fun x hx => find1Pp_pure x t) hl
 (refine Spec.bd 0 Tryz.func140 Tryz.results140 Tryz.ntmps140 ?_; simp only [entry, zipArgs, Nat.reduceAdd])
 ((refine w_pre ?_); (iterate 3 (refine w_nr ?_)); (refine w_nil ?_))
 (refine w_fzP (slq 4) ?_)
 (refine w_fzP (slq 5) ?_)
 (refine w_go ?_)
 (apply Run.pureP; (exact w_ev); (exact (Enters.of Tryz.func172 rfl rfl)); (exact hcf); (exact w_al); (try dsimp only [putA, optG]))
 (refine w_go ?_)
 (first | exact w_ret | refine w_retZ ?_)
theorem find1Ac_pure (x : Ac) (t : ByteArray) : Pure Tryz.prog 184 [acA x, .ref [.clo 144 []] 0, .ref [.str t] 0] (.bool (decide (x.nm = t))) := by
 have hkx := actName_pure x
 unfold acA acC at *
 (refine Spec.bd 0 Tryz.func184 Tryz.results184 Tryz.ntmps184 ?_; simp only [entry, zipArgs, Nat.reduceAdd])
 (refine w_go ?_)
 (refine Wp.rnD 6 ?_; apply exAb; (((refine w_abn ?_); (apply Abn.pureFP; (exact w_ev); (exact (Enters.of Tryz.func144 rfl rfl)); (exact hkx); (exact w_al); (try dsimp only [putA, optG])); (refine w_abn ?_)); exact Abn.nil))
 (refine w_go ?_)
 (first | exact w_ret | refine w_retZ ?_)
theorem findAc_pure (l : List Ac) (t : ByteArray) (hl : l.length ≤ 9223372036854775807) : Pure Tryz.prog 175 [.lst 8 (l.map acA), .str t, .clo 144 []] (.int (if l.any (fun x => decide (x.nm = t)) then (l.findIdx (fun x => decide (x.nm = t)) : Int) else -1)) := by
 have hcf := indexFuncAc l 184 [.ref [.clo 144 []] 0, .ref [.str t] 0] (fun x => decide (x.nm = t)) (Enters.of Tryz.func184 rfl rfl) (by simp [okL, AV.ok]) (fun m => ⟨rfl, rfl⟩) (fun x hx => find1Ac_pure x t) hl
 (refine Spec.bd 0 Tryz.func175 Tryz.results175 Tryz.ntmps175 ?_; simp only [entry, zipArgs, Nat.reduceAdd])
 ((refine w_pre ?_); (iterate 3 (refine w_nr ?_)); (refine w_nil ?_))
 (refine w_fzP (slq 4) ?_)
 (refine w_fzP (slq 5) ?_)
 (refine w_go ?_)
 (apply Run.pureP; (exact w_ev); (exact (Enters.of Tryz.func183 rfl rfl)); (exact hcf); (exact w_al); (try dsimp only [putA, optG]))
 (refine w_go ?_)
 (first | exact w_ret | refine w_retZ ?_)
end Go.Proofs.Tryz
set_option maxHeartbeats 8000000
namespace Go.Proofs.Tryz
open Go.Vg
theorem indexSr (l : List ByteArray) (v : ByteArray) (hl : l.length ≤ 9223372036854775807) :
  Pure Tryz.prog 182 [.strs l, AV.str v] (.int (if inS l v then (l.findIdx (fun x => decide (v = x)) : Int) else -1)) := by
 unfold inS
 (refine Spec.bd 0 Tryz.func182 Tryz.results182 Tryz.ntmps182 ?_; simp only [entry, zipArgs, Nat.reduceAdd])
 (refine w_go ?_)
 refine Wp.loop (fun k : Nat => { t := [(0, .strs l), (1, AV.str v), (7, .int l.length), (8, .int k)], m := [], n := 19 }) (fun k => k ≤ l.length ∧ ∀ j, j < k → (decide (v = l.getD j .empty)) = false) (fun k => l.length - k) 0 ?_ ?_ ?_
 ·(refine Le.of ?_ ?_ rfl rfl <;> (try simp only [push_cast, seval]) <;> (try (with_reducible rfl)))
 ·simp
 ·rintro k ⟨hk1, hk2⟩
  (refine w_go ?_)
  (apply Wp.cond; (exact w_ev))
  ·(intro hc; first | replace hc := bT hc | skip)
   generalize hx : l.getD k .empty = x
   (refine x_go @hx ?_)
   (apply Wp.cond; (exact x_ev @hx))
   ·intro h2
    rw [← hx] at h2
    obtain ⟨e1, e2⟩ := findSr (p := fun x => decide (v = x)) hc hk2 h2
    (refine x_go @hx ?_)
    (first | exact x_ret @hx | refine x_retZ @hx ?_)
    rw [e1, e2]; rfl
   ·intro h2
    (refine x_go @hx ?_)
    refine ⟨k + 1, ?_, ⟨by omega, fun j hj => ?_⟩, by omega⟩
    ·(refine Le.of ?_ ?_ rfl rfl <;> (try simp only [push_cast, seval, hx]) <;> (try (with_reducible rfl)))
    ·by_cases hjk : j = k
     ·subst hjk; rw [hx]; exact h2
     ·exact hk2 j (by omega)
  ·(intro hc; first | replace hc := bT hc | skip)
   (refine w_go ?_)
   obtain rfl : k = l.length := by omega
   have e1 := anyNoneSr (p := fun x => decide (v = x)) hk2
   (first | exact w_ret | refine w_retZ ?_)
   rw [e1]; rfl
theorem containsSr (l : List ByteArray) (v : ByteArray) (hl : l.length ≤ 9223372036854775807) : Pure Tryz.prog 167 [.strs l, AV.str v] (.bool (inS l v)) := by
 (refine Spec.bd 0 Tryz.func167 Tryz.results167 Tryz.ntmps167 ?_; simp only [entry, zipArgs, Nat.reduceAdd])
 (refine w_go ?_)
 (apply Run.pureP; (exact w_ev); (exact (Enters.of Tryz.func182 rfl rfl)); (exact indexSr l v hl); (exact w_al); (try dsimp only [putA, optG]))
 (refine w_go ?_)
 (first | exact w_ret | refine w_retZ ?_)
 cases inS l v <;> simp
theorem indexI (l : List Int) (v : Int) (hl : l.length ≤ 9223372036854775807) :
  Pure Tryz.prog 176 [.ints l, AV.int v] (.int (if inI l v then (l.findIdx (fun x => decide (v = x)) : Int) else -1)) := by
 unfold inI
 (refine Spec.bd 0 Tryz.func176 Tryz.results176 Tryz.ntmps176 ?_; simp only [entry, zipArgs, Nat.reduceAdd])
 (refine w_go ?_)
 refine Wp.loop (fun k : Nat => { t := [(0, .ints l), (1, AV.int v), (7, .int l.length), (8, .int k)], m := [], n := 19 }) (fun k => k ≤ l.length ∧ ∀ j, j < k → (decide (v = l.getD j 0)) = false) (fun k => l.length - k) 0 ?_ ?_ ?_
 ·(refine Le.of ?_ ?_ rfl rfl <;> (try simp only [push_cast, seval]) <;> (try (with_reducible rfl)))
 ·simp
 ·rintro k ⟨hk1, hk2⟩
  (refine w_go ?_)
  (apply Wp.cond; (exact w_ev))
  ·(intro hc; first | replace hc := bT hc | skip)
   generalize hx : l.getD k 0 = x
   (refine x_go @hx ?_)
   (apply Wp.cond; (exact x_ev @hx))
   ·intro h2
    rw [← hx] at h2
    obtain ⟨e1, e2⟩ := findI (p := fun x => decide (v = x)) hc hk2 h2
    (refine x_go @hx ?_)
    (first | exact x_ret @hx | refine x_retZ @hx ?_)
    rw [e1, e2]; rfl
   ·intro h2
    (refine x_go @hx ?_)
    refine ⟨k + 1, ?_, ⟨by omega, fun j hj => ?_⟩, by omega⟩
    ·(refine Le.of ?_ ?_ rfl rfl <;> (try simp only [push_cast, seval, hx]) <;> (try (with_reducible rfl)))
    ·by_cases hjk : j = k
     ·subst hjk; rw [hx]; exact h2
     ·exact hk2 j (by omega)
  ·(intro hc; first | replace hc := bT hc | skip)
   (refine w_go ?_)
   obtain rfl : k = l.length := by omega
   have e1 := anyNoneI (p := fun x => decide (v = x)) hk2
   (first | exact w_ret | refine w_retZ ?_)
   rw [e1]; rfl
theorem containsI (l : List Int) (v : Int) (hl : l.length ≤ 9223372036854775807) : Pure Tryz.prog 147 [.ints l, AV.int v] (.bool (inI l v)) := by
 (refine Spec.bd 0 Tryz.func147 Tryz.results147 Tryz.ntmps147 ?_; simp only [entry, zipArgs, Nat.reduceAdd])
 (refine w_go ?_)
 (apply Run.pureP; (exact w_ev); (exact (Enters.of Tryz.func176 rfl rfl)); (exact indexI l v hl); (exact w_al); (try dsimp only [putA, optG]))
 (refine w_go ?_)
 (first | exact w_ret | refine w_retZ ?_)
 cases inI l v <;> simp
def lowB (c : UInt8) : Bool := decide (97 ≤ c.toNat) && decide (c.toNat ≤ 122)
theorem byteAtN (b : ByteArray) (k : Nat) : byteAt b (k : Int) = b.data.toList.getD k 0 := by unfold byteAt; rw [Int.toNat_natCast]
theorem all_getD {l : List UInt8} {p : UInt8 → Bool} (h : ∀ j, j < l.length → p (l.getD j 0) = true) : l.all p = true := by
 rw [List.all_eq_true]
 intro x hx
 obtain ⟨i, hi, rfl⟩ := List.getElem_of_mem hx
 simpa [hi] using h i hi
theorem all_bad {l : List UInt8} {p : UInt8 → Bool} {k : Nat} (hk : k < l.length) (h : p (l.getD k 0) = false) : l.all p = false := by
 rw [← Bool.not_eq_true, List.all_eq_true]
 intro h2
 have := h2 (l.getD k 0) (by simp [hk])
 rw [h] at this; cases this
theorem letB_eq (t : ByteArray) : letB t = (t.data.toList.all lowB && !inS rsvd t && !decide (t = .empty)) := rfl
theorem word_pure (t : ByteArray) (hs : t.size ≤ 100) : Pure Tryz.prog 137 [.str t] (.bool (letB t)) := by
 have hbl : t.data.toList.length = t.size := by simp
 have hat := byteAtN t
 have hci := containsSr rsvd t (by show 10 ≤ _; omega)
 rw [letB_eq]
 generalize hl : t.data.toList = l at hbl hat
 have hne : ∀ b, decide (t = .empty) = b → decide (t = ByteArray.mk #[]) = b := fun b h => h
 have hGR : GR = some (1, rsvd) := rfl
 generalize rsvd = rs at hci hGR
 generalize inS rs t = ib at hci
 (refine Spec.bd 0 Tryz.func137 Tryz.results137 Tryz.ntmps137 ?_; simp only [entry, zipArgs, Nat.reduceAdd])
 (refine w_go ?_)
 refine Wp.loop (fun k : Nat => { t := [(0, .str t), (5, .int t.size), (6, .int k)], m := [], n := 28 }) (fun k => k ≤ t.size ∧ ∀ j, j < k → lowB (l.getD j 0) = true) (fun k => t.size - k) 0 ?_ ?_ ?_
 ·(refine Le.of ?_ ?_ rfl rfl <;> (try simp only [push_cast, seval]) <;> (try (with_reducible rfl)))
 ·simp
 ·rintro k ⟨hk1, hk2⟩
  have hak := hat k
  generalize hc0 : l.getD k 0 = c at hak
  by_cases hkb : k < t.size
  ·have e1 : decide ((k : Int) < (t.size : Int)) = true := decide_eq_true (by omega)
   (refine x_gg (zc @e1 @hak) ?_)
   (apply Wp.cond; (exact x_ev (zc @e1 @hak)))
   ·intro h2
    (refine x_gg (zc @e1 @hak) ?_)
    (first | exact x_ret (zc @e1 @hak) | refine x_retZ (zc @e1 @hak) ?_)
    rw [all_bad (p := lowB) (by omega) (by
     rw [hc0]
     simp only [Bool.or_eq_true, decide_eq_true_eq] at h2
     unfold lowB
     rw [← Bool.not_eq_true]
     simp only [Bool.and_eq_true, decide_eq_true_eq]
     omega : lowB (l.getD k 0) = false)]
    rfl
   ·intro h2
    (refine x_gg (zc @e1 @hak) ?_)
    refine ⟨k + 1, ?_, ⟨by omega, fun j hj => ?_⟩, by omega⟩
    ·(refine Le.of ?_ ?_ rfl rfl <;> (try simp only [push_cast, seval, e1, hak]) <;> (try (with_reducible rfl)))
    ·by_cases hjk : j = k
     ·subst hjk; rw [hc0]
      simp only [Bool.or_eq_false_iff, decide_eq_false_iff_not] at h2
      unfold lowB
      simp only [Bool.and_eq_true, decide_eq_true_eq]
      omega
     ·exact hk2 j (by omega)
  ·have e1 : decide ((k : Int) < (t.size : Int)) = false := decide_eq_false (by omega)
   rw [all_getD (p := lowB) fun j hj => hk2 j (by omega)]
   cases he : decide (t = .empty) with
   | true =>
    have h3 := hne _ he
    (refine x_gg (zc @e1 @h3) ?_)
    (first | exact x_ret (zc @e1 @h3) | refine x_retZ (zc @e1 @h3) ?_)
    simp
   | false =>
    have h3 := hne _ he
    (refine x_gg (zc @e1 @h3) ?_)
    (refine Run.loadG hGR (by (exact x_ev (zc @e1 @h3))) ?_; dsimp only [S.put, optG])
    (refine x_gg (zc @e1 @h3) ?_)
    (apply Run.pureP; (exact x_ev (zc @e1 @h3)); (exact (Enters.of Tryz.func167 rfl rfl)); (exact hci); (exact x_al (zc @e1 @h3)); (try dsimp only [putA, optG]))
    (refine x_gg (zc @e1 @h3) ?_)
    (first | exact x_ret (zc @e1 @h3) | refine x_retZ (zc @e1 @h3) ?_)
end Go.Proofs.Tryz
set_option maxHeartbeats 8000000
namespace Go.Proofs.Tryz
open Go.Vg
structure Sz (r : Rm) : Prop where
 ps : r.ps.length ≤ 12
 ts : r.ts.length ≤ 15
 pp : r.pp.length ≤ 14
 wy : r.wy.length ≤ 20
 ac : r.ac.length ≤ 30
 au : r.au.length ≤ 15
 gl : r.goal.length ≤ 20
 psn : ∀ x ∈ r.ps, x.size ≤ 100
 tsn : ∀ x ∈ r.ts, x.nm.size ≤ 100
 ppn : ∀ x ∈ r.pp, x.nm.size ≤ 100 ∧ x.wh.length ≤ 20
 wyn : ∀ x ∈ r.wy, x.wh.length ≤ 20
 acn : ∀ x ∈ r.ac, x.nm.size ≤ 100 ∧ x.wh.length ≤ 20 ∧ x.us.length ≤ 20 ∧ x.se.length ≤ 20 ∧ x.sp.length ≤ 20 ∧ x.br.length ≤ 20
 aun : ∀ x ∈ r.au, x.wh.length ≤ 20
def TsOk (ts : List Th) : Prop := ∀ x ∈ ts, 2 ≤ x.ss ∧ x.ss ≤ 6
theorem TsOk.at {ts : List Th} (h : TsOk ts) {i : Nat} (hi : i < ts.length) : 2 ≤ (ts.getD i th0).ss ∧ (ts.getD i th0).ss ≤ 6 := h _ (memTh hi)
theorem namedSr_pure (t : ByteArray) (l : List ByteArray) (hs : t.size ≤ 100) (hl : l.length ≤ 9223372036854775807) : Pure Tryz.prog 110 [.str t, .strs l, .clo 111 []] (.bool (nmdB t && !l.any (fun x => decide (x = t)))) := by
 have hf := findSr_pure l t hl
 have hw := word_pure t hs
 unfold nmdB
 (refine Spec.bd 0 Tryz.func110 Tryz.results110 Tryz.ntmps110 ?_; simp only [entry, zipArgs, Nat.reduceAdd])
 (refine w_go ?_)
 (apply Run.pureP; (exact w_ev); (exact (Enters.of Tryz.func137 rfl rfl)); (exact hw); (exact w_al); (try dsimp only [putA, optG]))
 (refine w_go ?_)
 (apply Run.pureP; (exact w_ev); (exact (Enters.of Tryz.func138 rfl rfl)); (exact hf); (exact w_al); (try dsimp only [putA, optG]))
 (refine w_go ?_)
 (first | exact w_ret | refine w_retZ ?_)
 have e : decide ((t.size : Int) ≤ 12) = decide (t.size ≤ 12) := decide_eq_decide.2 (by omega)
 have e2 : decide ((if l.any (fun x => decide (x = t)) = true then (l.findIdx (fun x => decide (x = t)) : Int) else -1) < 0) = !l.any (fun x => decide (x = t)) := by
  cases l.any (fun x => decide (x = t)) <;> simp
 rw [e2, e]
theorem namedTh_pure (t : ByteArray) (l : List Th) (hs : t.size ≤ 100) (hl : l.length ≤ 9223372036854775807) : Pure Tryz.prog 112 [.str t, .lst 4 (l.map thA), .clo 113 []] (.bool (nmdB t && !l.any (fun x => decide (x.nm = t)))) := by
 have hf := findTh_pure l t hl
 have hw := word_pure t hs
 unfold nmdB
 (refine Spec.bd 0 Tryz.func112 Tryz.results112 Tryz.ntmps112 ?_; simp only [entry, zipArgs, Nat.reduceAdd])
 (refine w_go ?_)
 (apply Run.pureP; (exact w_ev); (exact (Enters.of Tryz.func137 rfl rfl)); (exact hw); (exact w_al); (try dsimp only [putA, optG]))
 (refine w_go ?_)
 (apply Run.pureP; (exact w_ev); (exact (Enters.of Tryz.func139 rfl rfl)); (exact hf); (exact w_al); (try dsimp only [putA, optG]))
 (refine w_go ?_)
 (first | exact w_ret | refine w_retZ ?_)
 have e : decide ((t.size : Int) ≤ 12) = decide (t.size ≤ 12) := decide_eq_decide.2 (by omega)
 have e2 : decide ((if l.any (fun x => decide (x.nm = t)) = true then (l.findIdx (fun x => decide (x.nm = t)) : Int) else -1) < 0) = !l.any (fun x => decide (x.nm = t)) := by
  cases l.any (fun x => decide (x.nm = t)) <;> simp
 rw [e2, e]
theorem namedPp_pure (t : ByteArray) (l : List Pp) (hs : t.size ≤ 100) (hl : l.length ≤ 9223372036854775807) : Pure Tryz.prog 114 [.str t, .lst 3 (l.map ppA), .clo 115 []] (.bool (nmdB t && !l.any (fun x => decide (x.nm = t)))) := by
 have hf := findPp_pure l t hl
 have hw := word_pure t hs
 unfold nmdB
 (refine Spec.bd 0 Tryz.func114 Tryz.results114 Tryz.ntmps114 ?_; simp only [entry, zipArgs, Nat.reduceAdd])
 (refine w_go ?_)
 (apply Run.pureP; (exact w_ev); (exact (Enters.of Tryz.func137 rfl rfl)); (exact hw); (exact w_al); (try dsimp only [putA, optG]))
 (refine w_go ?_)
 (apply Run.pureP; (exact w_ev); (exact (Enters.of Tryz.func140 rfl rfl)); (exact hf); (exact w_al); (try dsimp only [putA, optG]))
 (refine w_go ?_)
 (first | exact w_ret | refine w_retZ ?_)
 have e : decide ((t.size : Int) ≤ 12) = decide (t.size ≤ 12) := decide_eq_decide.2 (by omega)
 have e2 : decide ((if l.any (fun x => decide (x.nm = t)) = true then (l.findIdx (fun x => decide (x.nm = t)) : Int) else -1) < 0) = !l.any (fun x => decide (x.nm = t)) := by
  cases l.any (fun x => decide (x.nm = t)) <;> simp
 rw [e2, e]
theorem namedAc_pure (t : ByteArray) (l : List Ac) (hs : t.size ≤ 100) (hl : l.length ≤ 9223372036854775807) : Pure Tryz.prog 143 [.str t, .lst 8 (l.map acA), .clo 144 []] (.bool (nmdB t && !l.any (fun x => decide (x.nm = t)))) := by
 have hf := findAc_pure l t hl
 have hw := word_pure t hs
 unfold nmdB
 (refine Spec.bd 0 Tryz.func143 Tryz.results143 Tryz.ntmps143 ?_; simp only [entry, zipArgs, Nat.reduceAdd])
 (refine w_go ?_)
 (apply Run.pureP; (exact w_ev); (exact (Enters.of Tryz.func137 rfl rfl)); (exact hw); (exact w_al); (try dsimp only [putA, optG]))
 (refine w_go ?_)
 (apply Run.pureP; (exact w_ev); (exact (Enters.of Tryz.func175 rfl rfl)); (exact hf); (exact w_al); (try dsimp only [putA, optG]))
 (refine w_go ?_)
 (first | exact w_ret | refine w_retZ ?_)
 have e : decide ((t.size : Int) ≤ 12) = decide (t.size ≤ 12) := decide_eq_decide.2 (by omega)
 have e2 : decide ((if l.any (fun x => decide (x.nm = t)) = true then (l.findIdx (fun x => decide (x.nm = t)) : Int) else -1) < 0) = !l.any (fun x => decide (x.nm = t)) := by
  cases l.any (fun x => decide (x.nm = t)) <;> simp
 rw [e2, e]
theorem state_pure {r : Rm} (hz : r.ts.length ≤ 100) (ht : TsOk r.ts) (th n : Int) : Pure Tryz.prog 105 [rmA r, .int th, .int n] (.bool (stB r.ts th n)) := by
 unfold rmA rmC stB
 have hw := within_pure th 0 ((r.ts.length : Int) - 1)
 cases h : wi th 0 ((r.ts.length : Int) - 1) with
 | false =>
  rw [h] at hw
  (refine Spec.bd 0 Tryz.func105 Tryz.results105 Tryz.ntmps105 ?_; simp only [entry, zipArgs, Nat.reduceAdd])
  ((refine w_pre ?_); (iterate 2 (refine w_nr ?_)); (refine w_nil ?_))
  (refine w_fzP (slq 3) ?_)
  (refine w_go ?_)
  (apply Run.pureP; (exact w_ev); (exact (Enters.of Tryz.func106 rfl rfl)); (exact hw); (exact w_al); (try dsimp only [putA, optG]))
  (refine w_gg ?_)
  (first | exact w_ret | refine w_retZ ?_)
 | true =>
  rw [h] at hw
  have hb := wi_iff.1 h
  have hx6 := ht.at (i := th.toNat) (by omega)
  generalize hx : r.ts.getD th.toNat th0 = x at hx6
  (refine Spec.bd 0 Tryz.func105 Tryz.results105 Tryz.ntmps105 ?_; simp only [entry, zipArgs, Nat.reduceAdd])
  ((refine x_pre @hx ?_); (iterate 2 (refine x_nr @hx ?_)); (refine x_nil @hx ?_))
  (refine x_fzP @hx (slq 3) ?_)
  (refine x_go @hx ?_)
  (apply Run.pureP; (exact x_ev @hx); (exact (Enters.of Tryz.func106 rfl rfl)); (exact hw); (exact x_al @hx); (try dsimp only [putA, optG]))
  (refine x_gg @hx ?_)
  (apply Run.pureP; (exact x_ev @hx); (exact (Enters.of Tryz.func106 rfl rfl)); (exact within_pure _ _ _); (exact x_al @hx); (try dsimp only [putA, optG]))
  (refine x_gg @hx ?_)
  (first | exact x_ret @hx | refine x_retZ @hx ?_)
theorem valid1_pure {r : Rm} (hz : r.ts.length ≤ 100) (ht : TsOk r.ts) (x : Lt) : Pure Tryz.prog 141 [ltA x, .ref (rmC r) 0] (.bool (!stB r.ts x.th x.st)) := by
 have hs := state_pure hz ht x.th x.st
 unfold rmA rmC at hs
 unfold rmC
 (refine Spec.bd 0 Tryz.func141 Tryz.results141 Tryz.ntmps141 ?_; simp only [entry, zipArgs, Nat.reduceAdd])
 (refine w_go ?_)
 (apply Run.pureP; (exact w_ev); (exact (Enters.of Tryz.func105 rfl rfl)); (exact hs); (exact w_al); (try dsimp only [putA, optG]))
 (refine w_go ?_)
 (first | exact w_ret | refine w_retZ ?_)
theorem cdB_eq (ts : List Th) (c : List Lt) : cdB ts c = (decide (c.length ≤ 8) && !c.any (fun l => !stB ts l.th l.st)) := by
 unfold cdB
 congr 1
 induction c with
 | nil => rfl
 | cons a c ih => simp only [List.all_cons, List.any_cons, ih, Bool.not_or, Bool.not_not]
theorem valid_pure {r : Rm} (hz : r.ts.length ≤ 100) (ht : TsOk r.ts) (c : List Lt) (hc : c.length ≤ 100) : Pure Tryz.prog 116 [rmA r, cdA c] (.bool (cdB r.ts c)) := by
 have hcf := containsFuncLt c 141 [.ref (rmC r) 0] (fun x => !stB r.ts x.th x.st) (Enters.of Tryz.func141 rfl rfl) (by simp [okL, AV.ok, okL_rm]) (fun m => ⟨rfl, rfl⟩) (fun x _ => valid1_pure hz ht x) (by omega)
 rw [cdB_eq]
 generalize (c.any fun x => !stB r.ts x.th x.st) = b at hcf
 unfold rmA rmC at *
 (refine Spec.bd 0 Tryz.func116 Tryz.results116 Tryz.ntmps116 ?_; simp only [entry, zipArgs, Nat.reduceAdd])
 ((refine w_pre ?_); (iterate 2 (refine w_nr ?_)); (refine w_nil ?_))
 (refine w_fzP (slq 2) ?_)
 (refine w_go ?_)
 (apply Run.pureP; (exact w_ev); (exact (Enters.of Tryz.func142 rfl rfl)); (exact hcf); (exact w_al); (try dsimp only [putA, optG]))
 (refine w_go ?_)
 (first | exact w_ret | refine w_retZ ?_)
 have e : decide ((c.length : Int) ≤ 8) = decide (c.length ≤ 8) := decide_eq_decide.2 (by omega)
 rw [e]
end Go.Proofs.Tryz
set_option maxHeartbeats 8000000
namespace Go.Proofs.Tryz
open Go.Vg
theorem all_at {α : Type} {d : α} {p : α → Bool} {l : List α} (h : ∀ j, j < l.length → p (l.getD j d) = true) : l.all p = true := by
 rw [List.all_eq_true]
 intro x hx
 obtain ⟨i, hi, rfl⟩ := List.getElem_of_mem hx
 simpa [hi] using h i hi
theorem all_no {α : Type} {d : α} {p : α → Bool} {l : List α} {k : Nat} (hk : k < l.length) (h : p (l.getD k d) = false) : l.all p = false := by
 rw [← Bool.not_eq_true, List.all_eq_true]
 intro h2
 have := h2 (l.getD k d) (by simp [hk])
 rw [h] at this; cases this
theorem range_all {n : Nat} {p : Nat → Bool} (h : ∀ j, j < n → p j = true) : (List.range n).all p = true := by
 rw [List.all_eq_true]; intro x hx; exact h x (List.mem_range.1 hx)
theorem range_no {n k : Nat} {p : Nat → Bool} (hk : k < n) (h : p k = false) : (List.range n).all p = false := by
 rw [← Bool.not_eq_true, List.all_eq_true]
 intro h2
 have := h2 k (List.mem_range.2 hk)
 rw [h] at this; cases this
theorem any_not {α : Type} (p : α → Bool) (l : List α) : (l.any fun x => !p x) = !l.all p := by
 induction l with
 | nil => rfl
 | cons a l ih => simp [ih, Bool.not_and]
def lastA (l : List Int) (k : Nat) : Int := if k = 0 then -1 else l.getD (k - 1) 0
theorem lastA_s (l : List Int) (k : Nat) : lastA l (k + 1) = l.getD k 0 := rfl
theorem props_pure {r : Rm} (hz : r.pp.length ≤ 100) (l : List Int) (hl : l.length ≤ 100) : Pure Tryz.prog 145 [rmA r, .ints l] (.bool (ascB r.pp.length l)) := by
 have hA : ascB r.pp.length l = (List.range l.length).all (fun i => decide (lastA l i < l.getD i 0) && decide (l.getD i 0 < r.pp.length)) := rfl
 rw [hA]
 unfold rmA rmC
 have hls := lastA_s l
 have hl0 : lastA l 0 = -1 := rfl
 (refine Spec.bd 0 Tryz.func145 Tryz.results145 Tryz.ntmps145 ?_; simp only [entry, zipArgs, Nat.reduceAdd])
 ((refine w_pre ?_); (iterate 2 (refine w_nr ?_)); (refine w_nil ?_))
 (refine w_fzP (slq 2) ?_)
 (refine w_go ?_)
 refine Wp.loop (fun k : Nat => { t := [(2, .ref (rmC r) 0), (5, .int (lastA l k)), (8, .ints l), (9, .int l.length), (10, .int k)], m := [⟨1, .row 8 []⟩], n := 26 }) (fun k => k ≤ l.length ∧ ∀ j, j < k → (decide (lastA l j < l.getD j 0) && decide (l.getD j 0 < r.pp.length)) = true) (fun k => l.length - k) 0 ?_ ?_ ?_
 ·(refine Le.of ?_ ?_ rfl rfl <;> (try simp only [push_cast, seval]) <;> (try (with_reducible rfl)))
  all_goals exact ⟨rfl, rfl⟩
 ·simp
 ·rintro k ⟨hk1, hk2⟩
  have hlk := hls k
  generalize hp : lastA l k = p
  generalize hx : l.getD k 0 = x at hlk
  (refine x_go (zc @hx (zc @hlk @rmC.eq_1)) ?_)
  (apply Wp.cond; (exact x_ev (zc @hx (zc @hlk @rmC.eq_1))))
  ·(intro hc; first | replace hc := bT hc | skip)
   (refine x_go (zc @hx (zc @hlk @rmC.eq_1)) ?_)
   (apply Wp.cond; (exact x_ev (zc @hx (zc @hlk @rmC.eq_1))))
   ·intro h2
    (refine x_go (zc @hx (zc @hlk @rmC.eq_1)) ?_)
    (first | exact x_ret (zc @hx (zc @hlk @rmC.eq_1)) | refine x_retZ (zc @hx (zc @hlk @rmC.eq_1)) ?_)
    rw [range_no hc]
    rw [hx, hp]
    simp only [Bool.or_eq_true, decide_eq_true_eq] at h2
    rw [← Bool.not_eq_true]
    simp only [Bool.and_eq_true, decide_eq_true_eq]
    omega
   ·intro h2
    (refine x_go (zc @hx (zc @hlk @rmC.eq_1)) ?_)
    refine ⟨k + 1, ?_, ⟨by omega, fun j hj => ?_⟩, by omega⟩
    ·(refine Le.of ?_ ?_ rfl rfl <;> (try simp only [push_cast, seval, hx, hlk, rmC]) <;> (try (with_reducible rfl)))
    ·by_cases hjk : j = k
     ·subst hjk
      rw [hx, hp]
      simp only [Bool.or_eq_false_iff, decide_eq_false_iff_not] at h2
      simp only [Bool.and_eq_true, decide_eq_true_eq]
      omega
     ·exact hk2 j (by omega)
  ·(intro hc; first | replace hc := bT hc | skip)
   (refine x_go (zc @hx (zc @hlk @rmC.eq_1)) ?_)
   obtain rfl : k = l.length := by omega
   (first | exact x_ret (zc @hx (zc @hlk @rmC.eq_1)) | refine x_retZ (zc @hx (zc @hlk @rmC.eq_1)) ?_)
   rw [range_all hk2]
theorem act1_pure (a : Ac) (p : Int) (h : a.us.length ≤ 100) : Pure Tryz.prog 146 [.int p, .ref (acC a) 0] (.bool (inI a.us p)) := by
 unfold acC
 (refine Spec.bd 0 Tryz.func146 Tryz.results146 Tryz.ntmps146 ?_; simp only [entry, zipArgs, Nat.reduceAdd])
 (refine w_go ?_)
 (apply Run.pureP; (exact w_ev); (exact (Enters.of Tryz.func147 rfl rfl)); (exact containsI a.us p (by omega)); (exact w_al); (try dsimp only [putA, optG]))
 (refine w_go ?_)
 (first | exact w_ret | refine w_retZ ?_)
theorem act2_pure (a : Ac) (p : Int) (h : a.us.length ≤ 100) : Pure Tryz.prog 148 [.int p, .ref [.clo 146 [.ref (acC a) 0]] 0] (.bool (!inI a.us p)) := by
 have h1 := act1_pure a p h
 (refine Spec.bd 0 Tryz.func148 Tryz.results148 Tryz.ntmps148 ?_; simp only [entry, zipArgs, Nat.reduceAdd])
 (refine w_go ?_)
 (apply Run.pureP; (exact w_ev); (exact (Enters.of Tryz.func146 rfl rfl)); (exact h1); (exact w_al); (try dsimp only [putA, optG]))
 (refine w_go ?_)
 (first | exact w_ret | refine w_retZ ?_)
theorem act3_pure (x s : Se) : Pure Tryz.prog 151 [seA x, .ref [.int s.th, .int s.st] 0] (.bool (decide (x.th = s.th))) := by
 (refine Spec.bd 0 Tryz.func151 Tryz.results151 Tryz.ntmps151 ?_; simp only [entry, zipArgs, Nat.reduceAdd])
 (refine w_go ?_)
 (first | exact w_ret | refine w_retZ ?_)
end Go.Proofs.Tryz
set_option maxHeartbeats 8000000
namespace Go.Proofs.Tryz
open Go.Vg
theorem newB_map {α : Type} (f : α → ByteArray) (l : List α) (d : α) {i : Nat} (h : i < l.length) : newB (l.map f) i = (nmdB (f (l.getD i d)) && !(l.take i).any (fun x => decide (f x = f (l.getD i d)))) := by
 have e : (l.map f).getD i .empty = f (l.getD i d) := by simp [h]
 unfold newB
 rw [e, ← List.map_take, List.any_map]
 rfl
def setF (ts : List Th) (l : List Se) (k : Nat) : Bool := stB ts (l.getD k se0).th (l.getD k se0).st && !(l.take k).any (fun x => decide (x.th = (l.getD k se0).th))
theorem setsB_eq (ts : List Th) (l : List Se) : setsB ts l = (List.range l.length).all (fun k => stB ts (l.getD k se0).th (l.getD k se0).st && !(l.take k).any (fun x => decide (x.th = (l.getD k se0).th))) := rfl
theorem act_pure {r : Rm} (hz : Sz r) (ht : TsOk r.ts) (i : Nat) (hi : i < r.ac.length) (a : Ac) (ha : r.ac.getD i ac0 = a) : Pure Tryz.prog 117 [rmA r, .int i, acA a] (.bool (acB r i a)) := by
 have hza := hz.acn _ (memAc hi)
 rw [ha] at hza
 obtain ⟨a1, a2, a3, a4, a5, a6⟩ := hza
 have hts := hz.ts
 have hps := hz.ps
 have hpp := hz.pp
 have hac := hz.ac
 have c1 := namedAc_pure a.nm (r.ac.take i) a1 (by rw [List.length_take]; omega)
 have c2 := within_pure a.pl 0 ((r.ps.length : Int) - 1)
 have c3 := within_pure a.lk (-1) 7
 have c4 := props_pure (r := r) (by omega) a.us (by omega)
 have c5 := props_pure (r := r) (by omega) a.sp (by omega)
 have c6 := props_pure (r := r) (by omega) a.br (by omega)
 have c7 := containsFuncI a.sp 148 [.ref [.clo 146 [.ref (acC a) 0]] 0] (fun p => !inI a.us p) (Enters.of Tryz.func148 rfl rfl) (by simp [okL, AV.ok, okL_acC]) (fun m => ⟨rfl, rfl⟩) (fun p _ => act2_pure a p (by omega)) (by omega)
 have c8 := containsFuncI a.br 146 [.ref (acC a) 0] (fun p => inI a.us p) (Enters.of Tryz.func146 rfl rfl) (by simp [okL, AV.ok, okL_acC]) (fun m => ⟨rfl, rfl⟩) (fun p _ => act1_pure a p (by omega)) (by omega)
 have c9 := fun (s : Se) (k : Nat) => containsFuncSe (a.se.take k) 151 [.ref [.int s.th, .int s.st] 0] (fun x => decide (x.th = s.th)) (Enters.of Tryz.func151 rfl rfl) (by simp [okL, AV.ok]) (fun m => ⟨rfl, rfl⟩) (fun x _ => act3_pure x s) (by rw [List.length_take]; omega)
 have c10 := fun (s : Se) => state_pure (r := r) (by omega) ht s.th s.st
 have hB : acB r i a = ((nmdB a.nm && !(r.ac.take i).any (fun x => decide (x.nm = a.nm))) && wi a.pl 0 ((r.ps.length : Int) - 1) && wi a.lk (-1) 7 && ascB r.pp.length a.us && ascB r.pp.length a.sp && ascB r.pp.length a.br && decide ((a.se.length : Int) ≤ 6) &&
   !(a.sp.any fun p => !inI a.us p) && !(a.br.any fun p => inI a.us p) && setsB r.ts a.se) := by
  unfold acB
  rw [newB_map Ac.nm r.ac ac0 hi, ha, any_not, Bool.not_not, show decide ((a.se.length : Int) ≤ 6) = decide (a.se.length ≤ 6) from decide_eq_decide.2 (by omega)]
  congr 3
  generalize a.br = l
  induction l with
  | nil => rfl
  | cons x l ih => simp only [List.all_cons, List.any_cons, ih, Bool.not_or]
 rw [hB]
 generalize (nmdB a.nm && !(r.ac.take i).any (fun x => decide (x.nm = a.nm))) = b1 at c1 ⊢
 generalize wi a.pl 0 ((r.ps.length : Int) - 1) = b2 at c2 ⊢
 generalize wi a.lk (-1) 7 = b3 at c3 ⊢
 generalize ascB r.pp.length a.us = b4 at c4 ⊢
 generalize ascB r.pp.length a.sp = b5 at c5 ⊢
 generalize ascB r.pp.length a.br = b6 at c6 ⊢
 generalize (a.sp.any fun p => !inI a.us p) = b7 at c7 ⊢
 generalize (a.br.any fun p => inI a.us p) = b8 at c8 ⊢
 rw [setsB_eq]
 have hq : ∀ k, (stB r.ts (a.se.getD k se0).th (a.se.getD k se0).st && !(a.se.take k).any (fun x => decide (x.th = (a.se.getD k se0).th))) = setF r.ts a.se k := fun _ => rfl
 simp only [hq]
 generalize hqg : setF r.ts a.se = qf at hq ⊢
 unfold rmA rmC at c4 c5 c6 c10 ⊢
 rw [show acA a = .agg [.str a.nm, .int a.pl, .int a.lk, .ints a.us, .lst 3 (a.wh.map ltA), .lst 2 (a.se.map seA), .ints a.sp, .ints a.br] from rfl]
 unfold acC at c7 c8
 (refine Spec.bd 0 Tryz.func117 Tryz.results117 Tryz.ntmps117 ?_; simp only [entry, zipArgs, Nat.reduceAdd])
 ((refine x_pre (zc @rmC.eq_1 (zc @acC.eq_1 @mapTk)) ?_); (iterate 3 (refine x_nr (zc @rmC.eq_1 (zc @acC.eq_1 @mapTk)) ?_)); (refine x_nil (zc @rmC.eq_1 (zc @acC.eq_1 @mapTk)) ?_))
 (refine x_fzP (zc @rmC.eq_1 (zc @acC.eq_1 @mapTk)) (slq 3) ?_)
 (refine x_fzP (zc @rmC.eq_1 (zc @acC.eq_1 @mapTk)) (slq 5) ?_)
 repeat (first | apply Wp.seq | apply Wp.block)
 (refine Wp.rnD 24 ?_; apply exAb; (((refine x_abn (zc @rmC.eq_1 (zc @acC.eq_1 @mapTk)) ?_); (apply Abn.pureP; (exact x_ev (zc @rmC.eq_1 (zc @acC.eq_1 @mapTk))); (exact (Enters.of Tryz.func143 rfl rfl)); (exact c1); (exact x_al (zc @rmC.eq_1 (zc @acC.eq_1 @mapTk))); (try dsimp only [putA, optG])); (refine x_abn (zc @rmC.eq_1 (zc @acC.eq_1 @mapTk)) ?_); (apply Abn.pureP; (exact x_ev (zc @rmC.eq_1 (zc @acC.eq_1 @mapTk))); (exact (Enters.of Tryz.func106 rfl rfl)); (exact c2); (exact x_al (zc @rmC.eq_1 (zc @acC.eq_1 @mapTk))); (try dsimp only [putA, optG])); (refine x_abn (zc @rmC.eq_1 (zc @acC.eq_1 @mapTk)) ?_); (apply Abn.pureP; (exact x_ev (zc @rmC.eq_1 (zc @acC.eq_1 @mapTk))); (exact (Enters.of Tryz.func106 rfl rfl)); (exact c3); (exact x_al (zc @rmC.eq_1 (zc @acC.eq_1 @mapTk))); (try dsimp only [putA, optG])); (refine x_abn (zc @rmC.eq_1 (zc @acC.eq_1 @mapTk)) ?_)); exact Abn.nil))
 (refine x_go (zc @rmC.eq_1 (zc @acC.eq_1 @mapTk)) ?_)
 (apply Wp.cond; (exact x_ev (zc @rmC.eq_1 (zc @acC.eq_1 @mapTk))))
 ·intro h
  (refine x_go (zc @rmC.eq_1 (zc @acC.eq_1 @mapTk)) ?_)
  (first | exact x_ret (zc @rmC.eq_1 (zc @acC.eq_1 @mapTk)) | refine x_retZ (zc @rmC.eq_1 (zc @acC.eq_1 @mapTk)) ?_)
  revert h
  cases b1 <;> cases b2 <;> cases b3 <;> simp
 ·intro h1
  have e1 : b1 = true ∧ b2 = true ∧ b3 = true := by
   revert h1
   cases b1 <;> cases b2 <;> cases b3 <;> simp
  obtain ⟨rfl, rfl, rfl⟩ := e1
  (refine x_go (zc @rmC.eq_1 (zc @acC.eq_1 @mapTk)) ?_)
  (apply Run.pureP; (exact x_ev (zc @rmC.eq_1 (zc @acC.eq_1 @mapTk))); (exact (Enters.of Tryz.func145 rfl rfl)); (exact c4); (exact x_al (zc @rmC.eq_1 (zc @acC.eq_1 @mapTk))); (try dsimp only [putA, optG]))
  (refine x_go (zc @rmC.eq_1 (zc @acC.eq_1 @mapTk)) ?_)
  (apply Run.pureP; (exact x_ev (zc @rmC.eq_1 (zc @acC.eq_1 @mapTk))); (exact (Enters.of Tryz.func145 rfl rfl)); (exact c5); (exact x_al (zc @rmC.eq_1 (zc @acC.eq_1 @mapTk))); (try dsimp only [putA, optG]))
  (refine x_go (zc @rmC.eq_1 (zc @acC.eq_1 @mapTk)) ?_)
  (apply Run.pureP; (exact x_ev (zc @rmC.eq_1 (zc @acC.eq_1 @mapTk))); (exact (Enters.of Tryz.func145 rfl rfl)); (exact c6); (exact x_al (zc @rmC.eq_1 (zc @acC.eq_1 @mapTk))); (try dsimp only [putA, optG]))
  (refine x_go (zc @rmC.eq_1 (zc @acC.eq_1 @mapTk)) ?_)
  (apply Wp.cond; (exact x_ev (zc @rmC.eq_1 (zc @acC.eq_1 @mapTk))))
  ·intro h
   (refine x_go (zc @rmC.eq_1 (zc @acC.eq_1 @mapTk)) ?_)
   (first | exact x_ret (zc @rmC.eq_1 (zc @acC.eq_1 @mapTk)) | refine x_retZ (zc @rmC.eq_1 (zc @acC.eq_1 @mapTk)) ?_)
   have e : decide ((6 : Int) < (a.se.length : Int)) = !decide ((a.se.length : Int) ≤ 6) := by
    rw [← decide_not]; exact decide_eq_decide.2 (by omega)
   rw [e] at h
   generalize decide ((a.se.length : Int) ≤ 6) = b0 at h ⊢
   revert h
   cases b4 <;> cases b5 <;> cases b6 <;> cases b0 <;> simp
  ·intro h2
   have e : decide ((6 : Int) < (a.se.length : Int)) = !decide ((a.se.length : Int) ≤ 6) := by
    rw [← decide_not]; exact decide_eq_decide.2 (by omega)
   rw [e] at h2
   generalize decide ((a.se.length : Int) ≤ 6) = b0 at h2 ⊢
   have e1 : b4 = true ∧ b5 = true ∧ b6 = true ∧ b0 = true := by
    revert h2
    cases b4 <;> cases b5 <;> cases b6 <;> cases b0 <;> simp
   obtain ⟨rfl, rfl, rfl, rfl⟩ := e1
   ((refine x_pre (zc @rmC.eq_1 (zc @acC.eq_1 @mapTk)) ?_); (iterate 3 (refine x_nr (zc @rmC.eq_1 (zc @acC.eq_1 @mapTk)) ?_)); (refine x_nil (zc @rmC.eq_1 (zc @acC.eq_1 @mapTk)) ?_))
   (refine x_fzP (zc @rmC.eq_1 (zc @acC.eq_1 @mapTk)) (slq 7) ?_)
   (refine x_go (zc @rmC.eq_1 (zc @acC.eq_1 @mapTk)) ?_)
   (apply Run.pureP; (exact x_ev (zc @rmC.eq_1 (zc @acC.eq_1 @mapTk))); (exact (Enters.of Tryz.func149 rfl rfl)); (exact c7); (exact x_al (zc @rmC.eq_1 (zc @acC.eq_1 @mapTk))); (try dsimp only [putA, optG]))
   (refine x_go (zc @rmC.eq_1 (zc @acC.eq_1 @mapTk)) ?_)
   (apply Run.pureP; (exact x_ev (zc @rmC.eq_1 (zc @acC.eq_1 @mapTk))); (exact (Enters.of Tryz.func149 rfl rfl)); (exact c8); (exact x_al (zc @rmC.eq_1 (zc @acC.eq_1 @mapTk))); (try dsimp only [putA, optG]))
   (refine x_go (zc @rmC.eq_1 (zc @acC.eq_1 @mapTk)) ?_)
   (apply Wp.cond; (exact x_ev (zc @rmC.eq_1 (zc @acC.eq_1 @mapTk))))
   ·intro h
    (refine x_go (zc @rmC.eq_1 (zc @acC.eq_1 @mapTk)) ?_)
    (first | exact x_ret (zc @rmC.eq_1 (zc @acC.eq_1 @mapTk)) | refine x_retZ (zc @rmC.eq_1 (zc @acC.eq_1 @mapTk)) ?_)
    revert h
    cases b7 <;> cases b8 <;> simp
   ·intro h3
    have e1 : b7 = false ∧ b8 = false := by
     revert h3
     cases b7 <;> cases b8 <;> simp
    obtain ⟨rfl, rfl⟩ := e1
    (refine x_go (zc @rmC.eq_1 (zc @acC.eq_1 @mapTk)) ?_)
    (refine Wp.vacs 1 ?_; (try simp only [List.replicate_succ, List.replicate_zero, List.cons_append, List.nil_append]))
    refine Wp.loop (fun (q : Nat × Nat × Kind) => { t := [(3, .ref (rmC r) 0), (5, .ref (acC a) 0), (74, .lst 2 (a.se.map seA)), (75, .int a.se.length), (76, .int q.1)], m := [⟨1, .row 8 []⟩, ⟨1, .row 8 []⟩, ⟨1, .row 1 []⟩, ⟨q.2.1, q.2.2⟩], n := 98 }) (fun q => q.1 ≤ a.se.length ∧ ∀ j, j < q.1 → qf j = true) (fun q => a.se.length - q.1) (0, 0, .row 1 []) ?_ ?_ ?_
    ·(refine Le.of ?_ ?_ rfl rfl <;> (try simp only [push_cast, seval, rmC, acC, ← List.map_take]) <;> (try (with_reducible rfl)))
     all_goals exact ⟨rfl, rfl⟩
    ·simp
    ·rintro ⟨k, v, kd⟩ ⟨hk1, hk2⟩
     simp only at hk1 hk2
     (refine x_gs (zc @rmC.eq_1 (zc @acC.eq_1 @mapTk)) ?_)
     (apply Wp.cond; (exact x_ev (zc @rmC.eq_1 (zc @acC.eq_1 @mapTk))))
     ·(intro hc; first | replace hc := bT hc | skip)
      have hqk := hq k
      have c9k := c9 (a.se.getD k se0) k
      have c10k := c10 (a.se.getD k se0)
      generalize hx : a.se.getD k se0 = x at c9k c10k hqk
      generalize ht1 : (a.se.take k).any (fun y => decide (y.th = x.th)) = b9 at c9k hqk
      generalize ht2 : stB r.ts x.th x.st = b10 at c10k hqk
      (refine x_gs (zc @rmC.eq_1 (zc @acC.eq_1 (zc @mapTk @hx))) ?_)
      (apply Run.alcAt 3; (exact x_ev (zc @rmC.eq_1 (zc @acC.eq_1 (zc @mapTk @hx)))); ((try simp only [push_cast, seval, rmC, acC, ← List.map_take, hx]) <;> exact sT); exact rfl; (try simp only [push_cast, seval, rmC, acC, ← List.map_take, hx]))
      (repeat (refine x_nr (zc @rmC.eq_1 (zc @acC.eq_1 (zc @mapTk @hx))) ?_))
      (apply Run.nil; dsimp only [sQ, tQ, bQ])
      (refine x_fzP (zc @rmC.eq_1 (zc @acC.eq_1 (zc @mapTk @hx))) (slq 10) ?_)
      (refine x_go (zc @rmC.eq_1 (zc @acC.eq_1 (zc @mapTk @hx))) ?_)
      (apply Run.pureP; (exact x_ev (zc @rmC.eq_1 (zc @acC.eq_1 (zc @mapTk @hx)))); (exact (Enters.of Tryz.func150 rfl rfl)); (exact c9k); (exact x_al (zc @rmC.eq_1 (zc @acC.eq_1 (zc @mapTk @hx)))); (try dsimp only [putA, optG]))
      (refine x_go (zc @rmC.eq_1 (zc @acC.eq_1 (zc @mapTk @hx))) ?_)
      (apply Run.pureP; (exact x_ev (zc @rmC.eq_1 (zc @acC.eq_1 (zc @mapTk @hx)))); (exact (Enters.of Tryz.func105 rfl rfl)); (exact c10k); (exact x_al (zc @rmC.eq_1 (zc @acC.eq_1 (zc @mapTk @hx)))); (try dsimp only [putA, optG]))
      (refine x_go (zc @rmC.eq_1 (zc @acC.eq_1 (zc @mapTk @hx))) ?_)
      (apply Wp.cond; (exact x_ev (zc @rmC.eq_1 (zc @acC.eq_1 (zc @mapTk @hx)))))
      ·intro h
       (refine x_go (zc @rmC.eq_1 (zc @acC.eq_1 (zc @mapTk @hx))) ?_)
       (first | exact x_ret (zc @rmC.eq_1 (zc @acC.eq_1 (zc @mapTk @hx))) | refine x_retZ (zc @rmC.eq_1 (zc @acC.eq_1 (zc @mapTk @hx))) ?_)
       rw [range_no hc (by
        rw [← hqk]
        revert h
        cases b9 <;> cases b10 <;> simp : qf k = false)]
      ·intro h
       have e1 : b9 = false ∧ b10 = true := by
        revert h
        cases b9 <;> cases b10 <;> simp
       (refine x_go (zc @rmC.eq_1 (zc @acC.eq_1 (zc @mapTk @hx))) ?_)
       refine ⟨(k + 1, v + 2, .row 2 []), ?_, ⟨by simp only; omega, fun j hj => ?_⟩, by simp only; omega⟩
       ·(refine Le.of ?_ ?_ rfl rfl <;> (try simp only [push_cast, seval, rmC, acC, ← List.map_take, hx]) <;> (try (with_reducible rfl)))
       ·simp only at hj
        by_cases hjk : j = k
        ·subst hjk; rw [← hqk, e1.1, e1.2]; rfl
        ·exact hk2 j (by omega)
     ·(intro hc; first | replace hc := bT hc | skip)
      (refine x_go (zc @rmC.eq_1 (zc @acC.eq_1 @mapTk)) ?_)
      obtain rfl : k = a.se.length := by omega
      (first | exact x_ret (zc @rmC.eq_1 (zc @acC.eq_1 @mapTk)) | refine x_retZ (zc @rmC.eq_1 (zc @acC.eq_1 @mapTk)) ?_)
      rw [range_all hk2]
end Go.Proofs.Tryz
