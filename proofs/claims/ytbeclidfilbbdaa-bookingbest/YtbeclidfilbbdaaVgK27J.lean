/- A part of the proof of BookingBest: contracts of functions, with plain laws that they need. -/
import Derived.Test.YtbeclidfilbbdaaVgT
import Derived.Test.YtbeclidfilbbdaaVgDm
import Derived.Test.YtbeclidfilbbdaaVgVz
import Derived.Test.YtbeclidfilbbdaaVgK24J
set_option linter.all false
set_option maxHeartbeats 8000000
namespace Go.Proofs.Try
open Go.Vg

/-! the document's search, and what it finds -/
def fsM {α : Type} (f : Nat → Option α) : Nat → Option α
  | 0 => none
  | M + 1 => match fsM f M with
    | some s => some s
    | none => f M
theorem fsM_none {α : Type} {f : Nat → Option α} : ∀ {M : Nat}, fsM f M = none ↔ ∀ m, m < M → f m = none
  | 0 => by simp [fsM]
  | M + 1 => by
    have ih := fsM_none (f := f) (M := M)
    simp only [fsM]
    cases h : fsM f M with
    | some s =>
      simp only [reduceCtorEq, false_iff]
      intro h2
      have := ih.2 fun m hm => h2 m (by omega)
      rw [h] at this; cases this
    | none =>
      have h1 := ih.1 h
      simp only
      constructor
      · intro h2 m hm
        by_cases hmM : m = M
        · subst hmM; exact h2
        · exact h1 m (by omega)
      · intro h2; exact h2 M (by omega)
theorem fsM_some {α : Type} {f : Nat → Option α} {s : α} : ∀ {M : Nat}, fsM f M = some s → ∃ m, m < M ∧ f m = some s ∧ ∀ m', m' < m → f m' = none
  | 0, h => by cases h
  | M + 1, h => by
    simp only [fsM] at h
    cases h1 : fsM f M with
    | some s' =>
      rw [h1] at h
      simp only at h
      obtain ⟨m, a, b, c⟩ := fsM_some h1
      exact ⟨m, by omega, by rw [b, h], c⟩
    | none =>
      rw [h1] at h
      exact ⟨M, by omega, h, fsM_none.1 h1⟩
def wrB (cs : List Ch) (ms : List Ma) (ls : List Bk) (bg : List Int) : Bool :=
  !ldB cs ms (bg.getD (bg.length - 1) 0).toNat (ls.getD (bg.length - 1) bk0) || (List.range (bg.length - 1)).any fun i => decide (bg.getD i 0 = bg.getD (bg.length - 1) 0) && togB cs (ls.getD i bk0) (ls.getD (bg.length - 1) bk0)
def stR (cs : List Ch) (ms : List Ma) (ls : List Bk) : Nat → List Int → Option (List Int)
  | 0, bg => some bg
  | d + 1, bg => fsM (fun m => if wrB cs ms ls (bg ++ [(m : Int)]) = true then none else stR cs ms ls d (bg ++ [(m : Int)])) ms.length
def aL (k : Nat) (a : Nat → Nat) : List Int := (List.range k).map fun i => (a i : Int)
theorem aL_len (k : Nat) (a : Nat → Nat) : (aL k a).length = k := by simp [aL]
theorem aL_get {k i : Nat} (a : Nat → Nat) (h : i < k) : (aL k a).getD i 0 = (a i : Int) := by simp [aL, h]
theorem aL_succ (k : Nat) (a : Nat → Nat) : aL (k + 1) a = aL k a ++ [(a k : Int)] := by simp [aL, List.range_succ]
theorem aL_congr {k : Nat} {a a' : Nat → Nat} (h : ∀ i, i < k → a i = a' i) : aL k a = aL k a' := by
  unfold aL
  exact List.map_congr_left fun i hi => by rw [h i (List.mem_range.1 hi)]
structure VK (cs : List Ch) (ms : List Ma) (ls : List Bk) (k : Nat) (a : Nat → Nat) : Prop where
  ok : ∀ x, x < k → a x < ms.length ∧ ldB cs ms (a x) (ls.getD x bk0) = true
  ap : ∀ i j, i < j → j < k → a i = a j → togB cs (ls.getD i bk0) (ls.getD j bk0) = false
theorem VK.all {cs : List Ch} {ms : List Ma} {ls : List Bk} {a : Nat → Nat} : VK cs ms ls ls.length a ↔ VA cs ms ls a := ⟨fun h => ⟨h.ok, h.ap⟩, fun h => ⟨h.ok, h.ap⟩⟩
theorem wrB_iff {cs : List Ch} {ms : List Ma} {ls : List Bk} {k : Nat} {a : Nat → Nat} : wrB cs ms ls (aL (k + 1) a) = false ↔ ldB cs ms (a k) (ls.getD k bk0) = true ∧ ∀ i, i < k → a i = a k → togB cs (ls.getD i bk0) (ls.getD k bk0) = false := by
  unfold wrB
  rw [aL_len, Nat.add_sub_cancel, aL_get a (by omega : k < k + 1)]
  simp only [Int.toNat_natCast, Bool.or_eq_false_iff, Bool.not_eq_false', List.any_eq_false, List.mem_range, Bool.and_eq_true, decide_eq_true_eq, not_and, Bool.not_eq_true]
  constructor
  · rintro ⟨h1, h2⟩
    refine ⟨h1, fun i hi e => h2 i hi ?_⟩
    rw [aL_get a (by omega), e]
  · rintro ⟨h1, h2⟩
    refine ⟨h1, fun i hi e => h2 i hi ?_⟩
    rw [aL_get a (by omega)] at e
    omega
theorem VK.succ {cs : List Ch} {ms : List Ma} {ls : List Bk} {k : Nat} {a : Nat → Nat} : VK cs ms ls (k + 1) a ↔ VK cs ms ls k a ∧ a k < ms.length ∧ wrB cs ms ls (aL (k + 1) a) = false := by
  rw [wrB_iff]
  constructor
  · rintro ⟨h1, h2⟩
    exact ⟨⟨fun x hx => h1 x (by omega), fun i j hij hj => h2 i j hij (by omega)⟩, (h1 k (by omega)).1, (h1 k (by omega)).2, fun i hi => h2 i k hi (by omega)⟩
  · rintro ⟨⟨h1, h2⟩, h3, h4, h5⟩
    refine ⟨fun x hx => ?_, fun i j hij hj => ?_⟩
    · by_cases hxk : x = k
      · subst hxk; exact ⟨h3, h4⟩
      · exact h1 x (by omega)
    · by_cases hjk : j = k
      · subst hjk; exact h5 i hij
      · exact h2 i j hij (by omega)
theorem VK.congr {cs : List Ch} {ms : List Ma} {ls : List Bk} {k : Nat} {a a' : Nat → Nat} (h : VK cs ms ls k a) (e : ∀ i, i < k → a i = a' i) : VK cs ms ls k a' :=
  ⟨fun x hx => by rw [← e x hx]; exact h.ok x hx, fun i j hij hj q => h.ap i j hij hj (by rw [e i (by omega), e j hj]; exact q)⟩
theorem VK.mono {cs : List Ch} {ms : List Ma} {ls : List Bk} {k k' : Nat} {a : Nat → Nat} (h : VK cs ms ls k a) (hk : k' ≤ k) : VK cs ms ls k' a :=
  ⟨fun x hx => h.ok x (by omega), fun i j hij hj => h.ap i j hij (by omega)⟩
def Lx (n : Nat) (a a2 : Nat → Nat) : Prop := ∀ i, i < n → (∀ j, j < i → a j = a2 j) → a i ≤ a2 i
theorem stR_spec {cs : List Ch} {ms : List Ma} {ls : List Bk} : ∀ (d k : Nat) (a0 : Nat → Nat), k + d = ls.length → VK cs ms ls k a0 →
    (stR cs ms ls d (aL k a0) = none → ∀ a, VA cs ms ls a → (∀ i, i < k → a i = a0 i) → False) ∧
    (∀ s, stR cs ms ls d (aL k a0) = some s → ∃ a, VA cs ms ls a ∧ (∀ i, i < k → a i = a0 i) ∧ s = aL ls.length a ∧ ∀ a2, VA cs ms ls a2 → (∀ i, i < k → a2 i = a0 i) → Lx ls.length a a2)
  | 0, k, a0, hk, hv => by
    have hk' : k = ls.length := by omega
    subst hk'
    refine ⟨fun h => (by simp [stR] at h), fun s h => ?_⟩
    simp only [stR, Option.some.injEq] at h
    exact ⟨a0, VK.all.1 hv, fun _ _ => rfl, h.symm, fun a2 _ e i hi _ => Nat.le_of_eq (e i hi).symm⟩
  | d + 1, k, a0, hk, hv => by
    have hup : ∀ m : Nat, aL k a0 ++ [(m : Int)] = aL (k + 1) (fun i => if i = k then m else a0 i) := fun m => by
      rw [aL_succ]
      congr 1
      · exact aL_congr fun i hi => by simp [show i ≠ k by omega]
      · simp
    have hkk : ∀ m : Nat, VK cs ms ls k (fun i => if i = k then m else a0 i) := fun m => hv.congr fun i hi => by simp [show i ≠ k by omega]
    have hf : ∀ m, (fun m : Nat => if wrB cs ms ls (aL k a0 ++ [(m : Int)]) = true then none else stR cs ms ls d (aL k a0 ++ [(m : Int)])) m = if wrB cs ms ls (aL (k + 1) (fun i => if i = k then m else a0 i)) = true then none else stR cs ms ls d (aL (k + 1) (fun i => if i = k then m else a0 i)) := fun m => by
      simp only [hup m]
    -- a valid one with m at k has a value of the function
    have hnone : ∀ m, m < ms.length → (if wrB cs ms ls (aL (k + 1) (fun i => if i = k then m else a0 i)) = true then none else stR cs ms ls d (aL (k + 1) (fun i => if i = k then m else a0 i))) = none → ∀ a, VA cs ms ls a → (∀ i, i < k → a i = a0 i) → a k = m → False := by
      intro m hm h a ha he hak
      have hag : ∀ i, i < k + 1 → a i = (fun i => if i = k then m else a0 i) i := fun i hi => by
        by_cases hik : i = k
        · subst hik; simp [hak]
        · simp [hik, he i (by omega)]
      have hva : VK cs ms ls (k + 1) (fun i => if i = k then m else a0 i) := ((VK.all.2 ha).mono (by omega)).congr hag
      have hw := (VK.succ.1 hva).2.2
      rw [if_neg (by rw [hw]; simp)] at h
      exact (stR_spec d (k + 1) _ (by omega) hva).1 h a ha hag
    refine ⟨fun h a ha he => ?_, fun s h => ?_⟩
    · simp only [stR] at h
      have h1 := fsM_none.1 h (a k) ((VK.all.2 ha).ok k (by omega)).1
      rw [hup] at h1
      exact hnone (a k) ((VK.all.2 ha).ok k (by omega)).1 h1 a ha he rfl
    · simp only [stR] at h
      obtain ⟨m, hm, h1, h2⟩ := fsM_some h
      rw [hup] at h1
      split at h1
      · cases h1
      · rename_i hw
        have hva : VK cs ms ls (k + 1) (fun i => if i = k then m else a0 i) := VK.succ.2 ⟨hkk m, by simp [hm], by simpa using hw⟩
        obtain ⟨a, q1, q2, q3, q4⟩ := (stR_spec d (k + 1) _ (by omega) hva).2 s h1
        have qk : a k = m := by rw [q2 k (by omega)]; simp
        have qi : ∀ i, i < k → a i = a0 i := fun i hi => by rw [q2 i (by omega)]; simp [show i ≠ k by omega]
        refine ⟨a, q1, qi, q3, fun a2 ha2 he i hi hpre => ?_⟩
        rcases Nat.lt_trichotomy i k with hik | hik | hik
        · rw [qi i hik, he i hik]; exact Nat.le_refl _
        · subst hik
          rw [qk]
          rcases Nat.lt_or_ge (a2 i) m with h3 | h3
          · have h4 := h2 (a2 i) h3
            rw [hup] at h4
            exact (hnone (a2 i) (by omega) h4 a2 ha2 he rfl).elim
          · exact h3
        · have h5 := hpre k hik
          refine q4 a2 ha2 (fun j hj => ?_) i hi hpre
          by_cases hjk : j = k
          · subst hjk; simp only [if_true]; omega
          · simp only [hjk, if_false]; exact he j (by omega)
def psB (cs : List Ch) (ms : List Ma) (ls : List Bk) : Bool := (stR cs ms ls ls.length []).isSome
theorem stR_none {cs : List Ch} {ms : List Ma} {ls : List Bk} (h : stR cs ms ls ls.length [] = none) (a : Nat → Nat) (ha : VA cs ms ls a) : False :=
  (stR_spec ls.length 0 (fun _ => 0) (by omega) ⟨fun x hx => by omega, fun i j _ hj => by omega⟩).1 h a ha fun i hi => by omega
theorem stR_some {cs : List Ch} {ms : List Ma} {ls : List Bk} {s : List Int} (h : stR cs ms ls ls.length [] = some s) : ∃ a, VA cs ms ls a ∧ s = aL ls.length a ∧ ∀ a2, VA cs ms ls a2 → Lx ls.length a a2 := by
  obtain ⟨a, h1, _, h2, h3⟩ := (stR_spec ls.length 0 (fun _ => 0) (by omega) ⟨fun x hx => by omega, fun i j _ hj => by omega⟩).2 s h
  exact ⟨a, h1, h2, fun a2 ha2 => h3 a2 ha2 fun i hi => by omega⟩
theorem psB_iff {cs : List Ch} {ms : List Ma} {ls : List Bk} : psB cs ms ls = true ↔ ∃ a, VA cs ms ls a := by
  unfold psB
  cases h : stR cs ms ls ls.length [] with
  | none => simp only [Option.isSome_none, Bool.false_eq_true, false_iff]; rintro ⟨a, ha⟩; exact stR_none h a ha
  | some s => simp only [Option.isSome_some, true_iff]; obtain ⟨a, ha, _⟩ := stR_some h; exact ⟨a, ha⟩
end Go.Proofs.Try
set_option maxHeartbeats 8000000
set_option maxRecDepth 20000
namespace Go.Proofs.Try
open Go.Vg

/-! whether a rota is possible -/
def knK (N n k : Nat) : List AV := knL N k ++ List.replicate (n - k) (.val (.map none))
theorem knK_len {N n k : Nat} (h : k ≤ n) : (knK N n k).length = n := by simp [knK, knL]; omega
theorem knK_set {N n k : Nat} (h : k < n) : (knK N n k).set k (.omap (N + k) 1) = knK N n (k + 1) := by
  have hl : (knL N k).length = k := by simp [knL]
  unfold knK
  rw [List.set_append_right _ _ (by omega), hl, Nat.sub_self]
  obtain ⟨j, hj⟩ : ∃ j, n - k = j + 1 := ⟨n - k - 1, by omega⟩
  rw [hj, List.replicate_succ, List.set_cons_zero, show n - (k + 1) = j by omega]
  simp [knL, List.range_succ]
theorem knK_all (N n : Nat) : knK N n n = knL N n := by simp [knK]
theorem vac_get {n k : Nat} {a b : Ent} (h : k < n) : (List.replicate k a ++ List.replicate (n - k) b)[k]? = some b := by
  rw [List.getElem?_append_right (by simp), List.length_replicate, Nat.sub_self, List.getElem?_replicate, if_pos (by omega)]
theorem vac_set {n k : Nat} {a b : Ent} (h : k < n) : (List.replicate k a ++ List.replicate (n - k) b).set k a = List.replicate (k + 1) a ++ List.replicate (n - (k + 1)) b := by
  rw [List.set_append_right _ _ (by simp)]
  obtain ⟨j, hj⟩ : ∃ j, n - k = j + 1 := ⟨n - k - 1, by omega⟩
  rw [hj, List.replicate_succ, List.length_replicate, Nat.sub_self, List.set_cons_zero, show n - (k + 1) = j by omega, List.replicate_succ']
  simp
theorem Z6_BB : BB Z6 := ⟨rfl, fun t ht => by
  rw [Z6, List.mem_replicate] at ht; omega⟩
theorem possible_spec {cs : List Ch} {ms : List Ma} {cake : Int} {ls : List Bk} {o : List Nat} {stf : List Int} (hp : PV cs ms cake ls o stf) {M : Mem} {r vr io vo is vs : Nat} {x6 : AV}
    (hr : M[r]? = some ⟨vr, .row 7 [rotA cs ms cake ls (.osl io vo 0 ls.length) (.osl is vs 0 ls.length) x6]⟩) (ho : M[io]? = some ⟨vo, .row 1 ((cL o).map AV.int)⟩) (hs : M[is]? = some ⟨vs, .row 1 (stf.map AV.int)⟩) (hn1 : io ≠ r) (hn2 : is ≠ r)
    (hok : ∀ e ∈ M.set r ⟨vr, .row 7 [rotA cs ms cake ls (.osl io vo 0 ls.length) (.osl is vs 0 ls.length) .any]⟩, e.kind.ok M.length) :
    Go.Vg.Spec Try.prog 60 [.optr r vr 0 0] M (fun y m' => y = .bool (rF cs ms ls stf o Z6) ∧ m' = M.set r ⟨vr, .row 7 [rotA cs ms cake ls (.osl io vo 0 ls.length) (.osl is vs 0 ls.length) .any]⟩) := by
  have hl20 := hp.lv.l20
  have hrl : r < M.length := (List.getElem?_eq_some_iff.1 hr).1
  obtain ⟨K, hK⟩ : ∃ K, M.length = K := ⟨_, rfl⟩
  obtain ⟨N, hN⟩ : ∃ N, N = K + 1 := ⟨_, rfl⟩
  have hgM : ∀ l : Mem, (M ++ l)[r]? = some ⟨vr, .row 7 [rotA cs ms cake ls (.osl io vo 0 ls.length) (.osl is vs 0 ls.length) x6]⟩ := fun l => by
    rw [List.getElem?_append_left hrl, hr]
  have hsM : ∀ (l : Mem) E, (M ++ l).set r E = M.set r E ++ l := fun l E => List.set_append_left _ _ hrl
  generalize hA : M.set r ⟨vr, .row 7 [rotA cs ms cake ls (.osl io vo 0 ls.length) (.osl is vs 0 ls.length) (.osl K 0 0 ls.length)]⟩ = A
  have hAl : A.length = K := by rw [← hA, List.length_set, hK]
  have hAr0 : A[r]? = some ⟨vr, .row 7 [rotA cs ms cake ls (.osl io vo 0 ls.length) (.osl is vs 0 ls.length) (.osl K 0 0 ls.length)]⟩ := by rw [← hA]; simp [hrl]
  have hAr : ∀ l : Mem, (A ++ l)[r]? = some ⟨vr, .row 7 [rotA cs ms cake ls (.osl io vo 0 ls.length) (.osl is vs 0 ls.length) (.osl K 0 0 ls.length)]⟩ := fun l => by
    rw [List.getElem?_append_left (by omega), hAr0]
  have hAo : A[io]? = some ⟨vo, .row 1 ((cL o).map AV.int)⟩ := by rw [← hA, List.getElem?_set_ne hn1.symm]; exact ho
  have hAs : A[is]? = some ⟨vs, .row 1 (stf.map AV.int)⟩ := by rw [← hA, List.getElem?_set_ne hn2.symm]; exact hs
  have hgK : ∀ l : Mem, (A ++ l)[K]? = l[0]? := fun l => getF0 hAl
  have hsK : ∀ (l : Mem) e, (A ++ l).set K e = A ++ l.set 0 e := fun l e => setF0 hAl e
  have hgN : ∀ e (l : Mem) k, (A ++ e :: l)[N + k]? = l[k]? := fun e l k => by
    rw [hN, show K + 1 + k = K + (k + 1) by omega, getF hAl]; simp
  have hsN : ∀ e (l : Mem) k x, (A ++ e :: l).set (N + k) x = A ++ e :: l.set k x := fun e l k x => by
    rw [hN, show K + 1 + k = K + (k + 1) by omega, setF hAl]; simp
  have hap : ∀ (l l' : Mem), (A ++ l) ++ l' = A ++ (l ++ l') := fun l l' => List.append_assoc _ _ _
  have hkn0 : List.replicate ls.length (AV.val (.map none)) = knK N ls.length 0 := by simp [knK, knL]
  have hRS : RS cs ms cake ls o stf (A ++ [⟨0, .row 1 (knL N ls.length)⟩]) N r vr io vo is vs K 0 := by
    refine ⟨by simp [hAl, hN], ?_, ?_, ?_, ?_⟩
    · exact hAr _
    · rw [List.getElem?_append_left (by have := (List.getElem?_eq_some_iff.1 hAo).1; omega), hAo]
    · rw [List.getElem?_append_left (by have := (List.getElem?_eq_some_iff.1 hAs).1; omega), hAs]
    · rw [hgK]; rfl
  have hfrom := from_spec hp hRS o 0 0 Z6 [] (fun _ => []) rfl (by rw [Nat.zero_add]; exact hp.ol) rfl Z6_BB (fun j _ hj => ⟨rfl, fun b v h => by simp [findL] at h⟩)
  (refine Spec.of_body Try.func60 rfl (by rw [Try.ntmps60]; simp) M.length (Nat.le_refl _) ?_; rw [Try.results60, Try.ntmps60]; simp only [entry, zipArgs, Nat.reduceAdd])
  repeat (first | apply Wp.seq | apply Wp.block | (apply Run.next; (simp only [push_cast, seval, hr, hgM, hsM, hA, hAr, hgK, hsK, hgN, hsN, hap, hK, hkn0] <;> (try simp (disch := omega) only [wI, wU, wC]) <;> exact rfl); (focus ((try simp only [push_cast, seval, hr, hgM, hsM, hA, hAr, hgK, hsK, hgN, hsN, hap, hK, hkn0]) <;> exact sT))) | ((first | apply Run.nil | apply Wp.skip); dsimp only [sQ, tQ, bQ]) | (apply Wp.run; (dsimp only [List.map] <;> exact rfl); exact rfl) | (apply Wp.exit; dsimp only [sQ, tQ, bQ]; simp only [reduceIte]))
  refine Wp.vacs ls.length ?_
  refine Wp.loop (fun (k : Nat) => { t := [(0, .optr r vr 0 0), (17, .int ls.length), (18, .int k)], m := A ++ (⟨0, .row 1 (knK N ls.length k)⟩ :: (List.replicate k ⟨1, .mp []⟩ ++ List.replicate (ls.length - k) ⟨0, .row 1 []⟩)), n := 32 }) (fun k => k ≤ ls.length) (fun k => ls.length - k) 0 ?_ ?_ ?_
  · (refine Le.of ?_ ?_ rfl rfl <;> (try simp only [push_cast, seval, hr, hgM, hsM, hA, hAr, hgK, hsK, hgN, hsN, hap, hK, hkn0]) <;> (try (with_reducible rfl)))
    all_goals (first | rfl | simp)
  · simp
  · intro k hk
    have hkl := knK_len (N := N) hk
    repeat (first | apply Wp.seq | apply Wp.block | (apply Run.calm; exact rfl; (simp only [push_cast, seval, hr, hgM, hsM, hA, hAr, hgK, hsK, hgN, hsN, hap, hK, hkn0] <;> (try simp (disch := omega) only [wI, wU, wC]) <;> exact rfl); (focus ((try simp only [push_cast, seval, hr, hgM, hsM, hA, hAr, hgK, hsK, hgN, hsN, hap, hK, hkn0]) <;> exact sT))) | ((first | apply Run.nil | apply Wp.skip); dsimp only [sQ, tQ, bQ]) | (apply Wp.run; (dsimp only [List.map] <;> exact rfl); exact rfl) | (apply Wp.exit; dsimp only [sQ, tQ, bQ]; simp only [reduceIte]))
    (apply Wp.cond; (simp only [push_cast, seval, hr, hgM, hsM, hA, hAr, hgK, hsK, hgN, hsN, hap, hK, hkn0] <;> (try simp (disch := omega) only [wI, wU, wC]) <;> exact rfl))
    · intro hc
      simp only [decide_eq_true_eq, Int.ofNat_lt] at hc
      have hks := knK_set (N := N) hc
      have hvg := vac_get (a := (⟨1, .mp []⟩ : Ent)) (b := (⟨0, .row 1 []⟩ : Ent)) hc
      have hvs := vac_set (a := (⟨1, .mp []⟩ : Ent)) (b := (⟨0, .row 1 []⟩ : Ent)) hc
      repeat (first | apply Wp.seq | apply Wp.block | (apply Run.calm; exact rfl; (simp only [push_cast, seval, hgM, hsM, hA, hAr, hgK, hsK, hgN, hsN, hap, hK, hkl, hks, hvg, hvs] <;> (try simp (disch := omega) only [wI, wU, wC]) <;> exact rfl); (focus ((try simp only [push_cast, seval, hgM, hsM, hA, hAr, hgK, hsK, hgN, hsN, hap, hK, hkl, hks, hvg, hvs]) <;> exact sT))) | ((first | apply Run.nil | apply Wp.skip); dsimp only [sQ, tQ, bQ]) | (apply Wp.run; (dsimp only [List.map] <;> exact rfl); exact rfl) | (apply Wp.exit; dsimp only [sQ, tQ, bQ]; simp only [reduceIte]))
      (apply Run.mapAt (N + k); (first | ((simp only [push_cast, seval, hgM, hsM, hA, hAr, hgK, hsK, hgN, hsN, hap, hK, hkl, hks, hvg, hvs] <;> (try simp (disch := omega) only [wI, wU, wC]) <;> exact rfl)) | exact rfl); (try simp only [push_cast, seval, hgM, hsM, hA, hAr, hgK, hsK, hgN, hsN, hap, hK, hkl, hks, hvg, hvs]))
      repeat (first | apply Wp.seq | apply Wp.block | (apply Run.next; (simp only [push_cast, seval, hgM, hsM, hA, hAr, hgK, hsK, hgN, hsN, hap, hK, hkl, hks, hvg, hvs] <;> (try simp (disch := omega) only [wI, wU, wC]) <;> exact rfl); (focus ((try simp only [push_cast, seval, hgM, hsM, hA, hAr, hgK, hsK, hgN, hsN, hap, hK, hkl, hks, hvg, hvs]) <;> exact sT))) | ((first | apply Run.nil | apply Wp.skip); dsimp only [sQ, tQ, bQ]) | (apply Wp.run; (dsimp only [List.map] <;> exact rfl); exact rfl) | (apply Wp.exit; dsimp only [sQ, tQ, bQ]; simp only [reduceIte]))
      refine ⟨k + 1, ?_, by omega, by omega⟩
      (refine Le.of ?_ ?_ rfl rfl <;> (try simp only [push_cast, seval, hgM, hsM, hA, hAr, hgK, hsK, hgN, hsN, hap, hK, hkl, hks, hvg, hvs]) <;> (try (with_reducible rfl)))
    · intro hc
      simp only [decide_eq_false_iff_not, Int.ofNat_lt] at hc
      obtain rfl : k = ls.length := by omega
      have hmm : A ++ (⟨0, .row 1 (knK N ls.length ls.length)⟩ :: (List.replicate ls.length ⟨1, .mp []⟩ ++ List.replicate (ls.length - ls.length) ⟨0, .row 1 []⟩)) = Mm (A ++ [⟨0, .row 1 (knL N ls.length)⟩]) ls.length (fun _ => []) [] := by
        have e : mpsE ls.length (fun _ => []) = List.replicate ls.length (⟨1, .mp []⟩ : Ent) := by
          unfold mpsE; rw [List.map_const']; simp
        rw [Mm, e, knK_all]; simp
      repeat (first | apply Wp.seq | apply Wp.block | (apply Run.next; (simp only [push_cast, seval, hgM, hsM, hA, hAr, hgK, hsK, hgN, hsN, hap, hK] <;> (try simp (disch := omega) only [wI, wU, wC]) <;> exact rfl); (focus ((try simp only [push_cast, seval, hgM, hsM, hA, hAr, hgK, hsK, hgN, hsN, hap, hK]) <;> exact sT))) | ((first | apply Run.nil | apply Wp.skip); dsimp only [sQ, tQ, bQ]) | (apply Wp.run; (dsimp only [List.map] <;> exact rfl); exact rfl) | (apply Wp.exit; dsimp only [sQ, tQ, bQ]; simp only [reduceIte]))
      apply Run.spec (he := Enters.of Try.func91 rfl rfl) (hc := hfrom)
      · exact hmm
      · exact rfl
      · (simp only [push_cast, seval, hgM, hsM, hA, hAr, hgK, hsK, hgN, hsN, hap, hK] <;> (try simp (disch := omega) only [wI, wU, wC]) <;> exact rfl)
      · rintro _ m2 ⟨rfl, mp2, J2, _, _, hm2⟩
        rw [Mm, List.append_assoc, List.append_assoc] at hm2
        generalize [(⟨0, .row 1 (knL N ls.length)⟩ : Ent)] ++ (mpsE ls.length mp2 ++ [] ++ J2) = R at hm2
        subst hm2
        dsimp only [S.put, optG]
        repeat (first | apply Wp.seq | apply Wp.block | (apply Run.next; (simp only [push_cast, seval, hgM, hsM, hA, hAr, hgK, hsK, hgN, hsN, hap, hK] <;> (try simp (disch := omega) only [wI, wU, wC]) <;> exact rfl); (focus ((try simp only [push_cast, seval, hgM, hsM, hA, hAr, hgK, hsK, hgN, hsN, hap, hK]) <;> exact sT))) | ((first | apply Run.nil | apply Wp.skip); dsimp only [sQ, tQ, bQ]) | (apply Wp.run; (dsimp only [List.map] <;> exact rfl); exact rfl) | (apply Wp.exit; dsimp only [sQ, tQ, bQ]; simp only [reduceIte]))
        refine Wp.adoptRow r 0 (l' := [rotA cs ms cake ls (.osl io vo 0 ls.length) (.osl is vs 0 ls.length) .any]) (hAr R) ⟨.inr ⟨_, _, rfl, rfl, .inl (.inl rfl), .inl (.inl rfl), .inl (.inl rfl), .inl (.inl rfl), .inl (.inl rfl), .inl (.inl rfl), .inr rfl, trivial⟩, trivial⟩ ?_
        have hfin : (A ++ R).set r ⟨vr, .row 7 [rotA cs ms cake ls (.osl io vo 0 ls.length) (.osl is vs 0 ls.length) .any]⟩ = M.set r ⟨vr, .row 7 [rotA cs ms cake ls (.osl io vo 0 ls.length) (.osl is vs 0 ls.length) .any]⟩ ++ R := by
          rw [List.set_append_left _ _ (by omega), ← hA, List.set_set]
        have htk : (M.set r ⟨vr, .row 7 [rotA cs ms cake ls (.osl io vo 0 ls.length) (.osl is vs 0 ls.length) .any]⟩ ++ R).take M.length = M.set r ⟨vr, .row 7 [rotA cs ms cake ls (.osl io vo 0 ls.length) (.osl is vs 0 ls.length) .any]⟩ := by
          rw [List.take_append_of_le_length (by simp), List.take_of_length_le (by simp)]
        simp only [List.replicate_zero, List.append_nil, hfin]
        apply Wp.ret
        (try dsimp only [sQ, tQ, bQ])
        refine leaveK rfl (by (simp only [push_cast, seval, hgM, hsM, hA, hAr, hgK, hsK, hgN, hsN, hap, hK] <;> (try simp (disch := omega) only [wI, wU, wC]) <;> exact rfl)) trivial (by simp [packRes, AV.ok]) ?_ ?_
        · rw [htk]; exact hok
        · rw [htk]; exact ⟨rfl, rfl⟩
end Go.Proofs.Try
set_option maxHeartbeats 8000000
namespace Go.Proofs.Try
open Go.Vg

/-! two lists of bookings, one behind the other -/
theorem grow_spec (n : Nat) (j : Int) (hj : j = (n : Int)) (h : 1 ≤ n ∧ n ≤ 1000) : Go.Vg.Spec Try.prog 98 [.emp, .int j] [] (fun y m' => y = .osl 0 0 0 0 ∧ m' = [⟨0, .row 6 (List.replicate n (.agg [.val (.int .i64 0), .val (.int .i64 0), .val (.int .i64 0), .val (.int .i64 0), .val (.bool false), .val (.int .i64 0)]))⟩]) := by
  subst hj
  have e1 : decide ((n : Int) < 0) = false := decide_eq_false (by omega)
  have e2 : decide ((0 : Int) < (n : Int)) = true := decide_eq_true (by omega)
  (refine Spec.of_bodyA Try.func98 rfl (by rw [Try.ntmps98]; simp) ?_; rw [Try.results98, Try.ntmps98]; simp only [entry, zipArgs, Nat.reduceAdd])
  repeat (first | apply Wp.seq | apply Wp.block | (apply Run.next; (simp only [push_cast, seval, e1, e2, Int.sub_zero, Int.sub_self] <;> (try simp (disch := omega) only [wI, wU, wC]) <;> exact rfl); (focus ((try simp only [push_cast, seval, e1, e2, Int.sub_zero, Int.sub_self]) <;> exact sT))) | ((first | apply Run.nil | apply Wp.skip); dsimp only [sQ, tQ, bQ]) | (apply Wp.run; (dsimp only [List.map] <;> exact rfl); exact rfl) | (apply Wp.exit; dsimp only [sQ, tQ, bQ]; simp only [reduceIte]) | (apply Run.gtrue; (simp only [push_cast, seval, e1, e2, Int.sub_zero, Int.sub_self] <;> (try simp (disch := omega) only [wI, wU, wC]) <;> exact rfl); (simp only [push_cast, seval, e1, e2, Int.sub_zero, Int.sub_self] <;> (try simp (disch := omega) only [wI, wU, wC]) <;> exact rfl)) | (apply Run.gfalse (.bool false); (simp only [push_cast, seval, e1, e2, Int.sub_zero, Int.sub_self] <;> (try simp (disch := omega) only [wI, wU, wC]) <;> exact rfl); dsimp only [S.put, optG]) | (apply Wp.condT; (simp only [push_cast, seval, e1, e2, Int.sub_zero, Int.sub_self] <;> (try simp (disch := omega) only [wI, wU, wC]) <;> exact rfl)) | (apply Wp.condF; (simp only [push_cast, seval, e1, e2, Int.sub_zero, Int.sub_self] <;> (try simp (disch := omega) only [wI, wU, wC]) <;> exact rfl)))
  (apply Wp.ret; (try dsimp only [sQ, tQ, bQ]); apply leaveA; exact rfl; (simp only [push_cast, seval, e1, e2, Int.sub_zero, Int.sub_self] <;> (try simp (disch := omega) only [wI, wU, wC]) <;> exact rfl); (focus (first | (simp only [push_cast, seval, e1, e2, Int.sub_zero, Int.sub_self]; done) | trivial | (simp only [push_cast, seval, e1, e2, Int.sub_zero, Int.sub_self]; trivial) | (simp; done))); (try simp only [push_cast, seval, e1, e2, Int.sub_zero, Int.sub_self]))
theorem shR (k n : Nat) : shiftL k (List.replicate n (AV.agg [.val (.int .i64 0), .val (.int .i64 0), .val (.int .i64 0), .val (.int .i64 0), .val (.bool false), .val (.int .i64 0)])) = List.replicate n (AV.agg [.val (.int .i64 0), .val (.int .i64 0), .val (.int .i64 0), .val (.int .i64 0), .val (.bool false), .val (.int .i64 0)]) := by
  induction n with
  | zero => rfl
  | succ n ih => rw [List.replicate_succ]; simp only [shiftL, ih]; rfl
def cSz (a b : Nat) (k : Nat) : Nat := if k = 0 then 0 else if k = 1 then a else a + b
def cLs (a b : List Bk) (k : Nat) : List Bk := if k = 0 then [] else if k = 1 then a else a ++ b
theorem concat_pure (a b : List Bk) (h : 1 ≤ a.length + b.length) (ha : a.length ≤ 100) (hb : b.length ≤ 100) : Pure Try.prog 85 [.lst 1 [.lst 6 (a.map bkA), .lst 6 (b.map bkA)]] (.lst 6 ((a ++ b).map bkA)) := by
  (refine Spec.of_body Try.func85 rfl (by rw [Try.ntmps85]; simp) 0 (by simp) ?_; rw [Try.results85, Try.ntmps85]; simp only [entry, zipArgs, Nat.reduceAdd])
  repeat (first | apply Wp.seq | apply Wp.block | (apply Run.next; (simp only [push_cast, seval] <;> (try simp (disch := omega) only [wI, wU, wC]) <;> exact rfl); (focus ((try simp only [push_cast, seval]) <;> exact sT))) | ((first | apply Run.nil | apply Wp.skip); dsimp only [sQ, tQ, bQ]) | (apply Wp.run; (dsimp only [List.map] <;> exact rfl); exact rfl) | (apply Wp.exit; dsimp only [sQ, tQ, bQ]; simp only [reduceIte]))
  refine Wp.loop (fun (k : Nat) => { t := [(0, .lst 1 [.lst 6 (a.map bkA), .lst 6 (b.map bkA)]), (9, .lst 1 [.lst 6 (a.map bkA), .lst 6 (b.map bkA)]), (10, .int (0 + 1 + 1)), (11, .int k), (3, .int (cSz a.length b.length k))], m := [], n := 36 }) (fun k => k ≤ 2) (fun k => 2 - k) 0 ?_ ?_ ?_
  · (refine Le.of ?_ ?_ rfl rfl <;> (try simp only [push_cast, seval]) <;> (try (with_reducible rfl)))
    all_goals rfl
  · simp
  · rintro k hk
    have : k = 0 ∨ k = 1 ∨ k = 2 := by omega
    rcases this with rfl | rfl | rfl
    · have e1 : decide ((a.length : Int) < 0) = false := decide_eq_false (by omega)
      repeat (first | apply Wp.seq | apply Wp.block | (apply Run.next; (simp only [push_cast, seval, e1, cSz, Int.zero_add] <;> (try simp (disch := omega) only [wI, wU, wC]) <;> exact rfl); (focus ((try simp only [push_cast, seval, e1, cSz, Int.zero_add]) <;> exact sT))) | ((first | apply Run.nil | apply Wp.skip); dsimp only [sQ, tQ, bQ]) | (apply Wp.run; (dsimp only [List.map] <;> exact rfl); exact rfl) | (apply Wp.exit; dsimp only [sQ, tQ, bQ]; simp only [reduceIte]) | (apply Run.gtrue; (simp only [push_cast, seval, e1, cSz, Int.zero_add] <;> (try simp (disch := omega) only [wI, wU, wC]) <;> exact rfl); (simp only [push_cast, seval, e1, cSz, Int.zero_add] <;> (try simp (disch := omega) only [wI, wU, wC]) <;> exact rfl)) | (apply Run.gfalse (.bool false); (simp only [push_cast, seval, e1, cSz, Int.zero_add] <;> (try simp (disch := omega) only [wI, wU, wC]) <;> exact rfl); dsimp only [S.put, optG]) | (apply Wp.condT; (simp only [push_cast, seval, e1, cSz, Int.zero_add] <;> (try simp (disch := omega) only [wI, wU, wC]) <;> exact rfl)) | (apply Wp.condF; (simp only [push_cast, seval, e1, cSz, Int.zero_add] <;> (try simp (disch := omega) only [wI, wU, wC]) <;> exact rfl)))
      refine ⟨1, ?_, by omega, by omega⟩
      (refine Le.of ?_ ?_ rfl rfl <;> (try simp only [push_cast, seval, e1, cSz, Int.zero_add]) <;> (try (with_reducible rfl)))
    · have e1 : decide ((a.length : Int) + (b.length : Int) < 0) = false := decide_eq_false (by omega)
      repeat (first | apply Wp.seq | apply Wp.block | (apply Run.next; (simp only [push_cast, seval, e1, cSz, Int.zero_add] <;> (try simp (disch := omega) only [wI, wU, wC]) <;> exact rfl); (focus ((try simp only [push_cast, seval, e1, cSz, Int.zero_add]) <;> exact sT))) | ((first | apply Run.nil | apply Wp.skip); dsimp only [sQ, tQ, bQ]) | (apply Wp.run; (dsimp only [List.map] <;> exact rfl); exact rfl) | (apply Wp.exit; dsimp only [sQ, tQ, bQ]; simp only [reduceIte]) | (apply Run.gtrue; (simp only [push_cast, seval, e1, cSz, Int.zero_add] <;> (try simp (disch := omega) only [wI, wU, wC]) <;> exact rfl); (simp only [push_cast, seval, e1, cSz, Int.zero_add] <;> (try simp (disch := omega) only [wI, wU, wC]) <;> exact rfl)) | (apply Run.gfalse (.bool false); (simp only [push_cast, seval, e1, cSz, Int.zero_add] <;> (try simp (disch := omega) only [wI, wU, wC]) <;> exact rfl); dsimp only [S.put, optG]) | (apply Wp.condT; (simp only [push_cast, seval, e1, cSz, Int.zero_add] <;> (try simp (disch := omega) only [wI, wU, wC]) <;> exact rfl)) | (apply Wp.condF; (simp only [push_cast, seval, e1, cSz, Int.zero_add] <;> (try simp (disch := omega) only [wI, wU, wC]) <;> exact rfl)))
      refine ⟨2, ?_, by omega, by omega⟩
      (refine Le.of ?_ ?_ rfl rfl <;> (try simp only [push_cast, seval, e1, cSz, Int.zero_add]) <;> (try (with_reducible rfl)))
    · 
      repeat (first | apply Wp.seq | apply Wp.block | (apply Run.next; (simp only [push_cast, seval, cSz, Int.reduceAdd, Int.reduceLT, shR] <;> (try simp (disch := omega) only [wI, wU, wC]) <;> exact rfl); (focus ((try simp only [push_cast, seval, cSz, Int.reduceAdd, Int.reduceLT, shR]) <;> exact sT))) | ((first | apply Run.nil | apply Wp.skip); dsimp only [sQ, tQ, bQ]) | (apply Wp.run; (dsimp only [List.map] <;> exact rfl); exact rfl) | (apply Wp.exit; dsimp only [sQ, tQ, bQ]; simp only [reduceIte]) | (apply Run.gtrue; (simp only [push_cast, seval, cSz, Int.reduceAdd, Int.reduceLT, shR] <;> (try simp (disch := omega) only [wI, wU, wC]) <;> exact rfl); (simp only [push_cast, seval, cSz, Int.reduceAdd, Int.reduceLT, shR] <;> (try simp (disch := omega) only [wI, wU, wC]) <;> exact rfl)) | (apply Run.gfalse (.bool false); (simp only [push_cast, seval, cSz, Int.reduceAdd, Int.reduceLT, shR] <;> (try simp (disch := omega) only [wI, wU, wC]) <;> exact rfl); dsimp only [S.put, optG]) | (apply Wp.condT; (simp only [push_cast, seval, cSz, Int.reduceAdd, Int.reduceLT, shR] <;> (try simp (disch := omega) only [wI, wU, wC]) <;> exact rfl)) | (apply Wp.condF; (simp only [push_cast, seval, cSz, Int.reduceAdd, Int.reduceLT, shR] <;> (try simp (disch := omega) only [wI, wU, wC]) <;> exact rfl)))
      (apply Run.freshE (he := (Enters.of Try.func98 rfl rfl)); (simp only [push_cast, seval, cSz, Int.reduceAdd, Int.reduceLT, shR] <;> first | exact rfl | assumption); (simp only [push_cast, seval, cSz, Int.reduceAdd, Int.reduceLT, shR] <;> (try simp (disch := omega) only [wI, wU, wC]) <;> exact rfl); (exact grow_spec (a.length + b.length) _ (by simp) (by omega)); (focus (first | (simp only [push_cast, seval, cSz, Int.reduceAdd, Int.reduceLT, shR]; done) | trivial | (simp only [push_cast, seval, cSz, Int.reduceAdd, Int.reduceLT, shR]; trivial) | (simp; done))); (simp only [push_cast, seval, cSz, Int.reduceAdd, Int.reduceLT, shR] <;> (try simp (disch := omega) only [wI, wU, wC]) <;> exact rfl); (simp only [push_cast, seval, cSz, Int.reduceAdd, Int.reduceLT, shR] <;> (try simp (disch := omega) only [wI, wU, wC]) <;> exact rfl); dsimp only [S.put, optG])
      repeat (first | apply Wp.seq | apply Wp.block | (apply Run.next; (simp only [push_cast, seval, cSz, Int.reduceAdd, Int.reduceLT, shR] <;> (try simp (disch := omega) only [wI, wU, wC]) <;> exact rfl); (focus ((try simp only [push_cast, seval, cSz, Int.reduceAdd, Int.reduceLT, shR]) <;> exact sT))) | ((first | apply Run.nil | apply Wp.skip); dsimp only [sQ, tQ, bQ]) | (apply Wp.run; (dsimp only [List.map] <;> exact rfl); exact rfl) | (apply Wp.exit; dsimp only [sQ, tQ, bQ]; simp only [reduceIte]) | (apply Run.gtrue; (simp only [push_cast, seval, cSz, Int.reduceAdd, Int.reduceLT, shR] <;> (try simp (disch := omega) only [wI, wU, wC]) <;> exact rfl); (simp only [push_cast, seval, cSz, Int.reduceAdd, Int.reduceLT, shR] <;> (try simp (disch := omega) only [wI, wU, wC]) <;> exact rfl)) | (apply Run.gfalse (.bool false); (simp only [push_cast, seval, cSz, Int.reduceAdd, Int.reduceLT, shR] <;> (try simp (disch := omega) only [wI, wU, wC]) <;> exact rfl); dsimp only [S.put, optG]) | (apply Wp.condT; (simp only [push_cast, seval, cSz, Int.reduceAdd, Int.reduceLT, shR] <;> (try simp (disch := omega) only [wI, wU, wC]) <;> exact rfl)) | (apply Wp.condF; (simp only [push_cast, seval, cSz, Int.reduceAdd, Int.reduceLT, shR] <;> (try simp (disch := omega) only [wI, wU, wC]) <;> exact rfl)))
      refine Wp.loop (fun (k : Nat) => { t := [(25, .lst 1 [.lst 6 (a.map bkA), .lst 6 (b.map bkA)]), (26, .int 2), (27, .int k), (6, .osl 0 k 0 (cLs a b k).length)], m := [⟨k, .row 6 (if k = 0 then List.replicate (a.length + b.length) (.agg [.val (.int .i64 0), .val (.int .i64 0), .val (.int .i64 0), .val (.int .i64 0), .val (.bool false), .val (.int .i64 0)]) else (cLs a b k).map bkA)⟩], n := 36 }) (fun k => k ≤ 2) (fun k => 2 - k) 0 ?_ ?_ ?_
      · (refine Le.of ?_ ?_ rfl rfl <;> (try simp only [push_cast, seval, cSz, Int.reduceAdd, Int.reduceLT, shR]) <;> (try (with_reducible rfl)))
        all_goals rfl
      · simp
      · rintro k hk
        have : k = 0 ∨ k = 1 ∨ k = 2 := by omega
        rcases this with rfl | rfl | rfl
        · 
          repeat (first | apply Wp.seq | apply Wp.block | (apply Run.next; (simp only [push_cast, seval, cLs, Int.reduceAdd, Int.reduceLT, Int.zero_add] <;> (try simp (disch := omega) only [wI, wU, wC]) <;> exact rfl); (focus ((try simp only [push_cast, seval, cLs, Int.reduceAdd, Int.reduceLT, Int.zero_add]) <;> exact sT))) | ((first | apply Run.nil | apply Wp.skip); dsimp only [sQ, tQ, bQ]) | (apply Wp.run; (dsimp only [List.map] <;> exact rfl); exact rfl) | (apply Wp.exit; dsimp only [sQ, tQ, bQ]; simp only [reduceIte]) | (apply Run.gtrue; (simp only [push_cast, seval, cLs, Int.reduceAdd, Int.reduceLT, Int.zero_add] <;> (try simp (disch := omega) only [wI, wU, wC]) <;> exact rfl); (simp only [push_cast, seval, cLs, Int.reduceAdd, Int.reduceLT, Int.zero_add] <;> (try simp (disch := omega) only [wI, wU, wC]) <;> exact rfl)) | (apply Run.gfalse (.bool false); (simp only [push_cast, seval, cLs, Int.reduceAdd, Int.reduceLT, Int.zero_add] <;> (try simp (disch := omega) only [wI, wU, wC]) <;> exact rfl); dsimp only [S.put, optG]) | (apply Wp.condT; (simp only [push_cast, seval, cLs, Int.reduceAdd, Int.reduceLT, Int.zero_add] <;> (try simp (disch := omega) only [wI, wU, wC]) <;> exact rfl)) | (apply Wp.condF; (simp only [push_cast, seval, cLs, Int.reduceAdd, Int.reduceLT, Int.zero_add] <;> (try simp (disch := omega) only [wI, wU, wC]) <;> exact rfl)))
          refine ⟨1, ?_, by omega, by omega⟩
          (refine Le.of ?_ ?_ rfl rfl <;> (try simp only [push_cast, seval, cLs, Int.reduceAdd, Int.reduceLT, Int.zero_add]) <;> (try (with_reducible rfl)))
          all_goals rfl
        · 
          repeat (first | apply Wp.seq | apply Wp.block | (apply Run.next; (simp only [push_cast, seval, cLs, Int.reduceAdd, Int.reduceLT, Int.zero_add, List.length_append] <;> (try simp (disch := omega) only [wI, wU, wC]) <;> exact rfl); (focus ((try simp only [push_cast, seval, cLs, Int.reduceAdd, Int.reduceLT, Int.zero_add, List.length_append]) <;> exact sT))) | ((first | apply Run.nil | apply Wp.skip); dsimp only [sQ, tQ, bQ]) | (apply Wp.run; (dsimp only [List.map] <;> exact rfl); exact rfl) | (apply Wp.exit; dsimp only [sQ, tQ, bQ]; simp only [reduceIte]) | (apply Run.gtrue; (simp only [push_cast, seval, cLs, Int.reduceAdd, Int.reduceLT, Int.zero_add, List.length_append] <;> (try simp (disch := omega) only [wI, wU, wC]) <;> exact rfl); (simp only [push_cast, seval, cLs, Int.reduceAdd, Int.reduceLT, Int.zero_add, List.length_append] <;> (try simp (disch := omega) only [wI, wU, wC]) <;> exact rfl)) | (apply Run.gfalse (.bool false); (simp only [push_cast, seval, cLs, Int.reduceAdd, Int.reduceLT, Int.zero_add, List.length_append] <;> (try simp (disch := omega) only [wI, wU, wC]) <;> exact rfl); dsimp only [S.put, optG]) | (apply Wp.condT; (simp only [push_cast, seval, cLs, Int.reduceAdd, Int.reduceLT, Int.zero_add, List.length_append] <;> (try simp (disch := omega) only [wI, wU, wC]) <;> exact rfl)) | (apply Wp.condF; (simp only [push_cast, seval, cLs, Int.reduceAdd, Int.reduceLT, Int.zero_add, List.length_append] <;> (try simp (disch := omega) only [wI, wU, wC]) <;> exact rfl)))
          refine ⟨2, ?_, by omega, by omega⟩
          (refine Le.of ?_ ?_ rfl rfl <;> (try simp only [push_cast, seval, cLs, Int.reduceAdd, Int.reduceLT, Int.zero_add, List.length_append]) <;> (try (with_reducible rfl)))
          all_goals rfl
        · 
          repeat (first | apply Wp.seq | apply Wp.block | (apply Run.next; (simp only [push_cast, seval, cLs, Int.reduceAdd, Int.reduceLT, Int.zero_add] <;> (try simp (disch := omega) only [wI, wU, wC]) <;> exact rfl); (focus ((try simp only [push_cast, seval, cLs, Int.reduceAdd, Int.reduceLT, Int.zero_add]) <;> exact sT))) | ((first | apply Run.nil | apply Wp.skip); dsimp only [sQ, tQ, bQ]) | (apply Wp.run; (dsimp only [List.map] <;> exact rfl); exact rfl) | (apply Wp.exit; dsimp only [sQ, tQ, bQ]; simp only [reduceIte]) | (apply Run.gtrue; (simp only [push_cast, seval, cLs, Int.reduceAdd, Int.reduceLT, Int.zero_add] <;> (try simp (disch := omega) only [wI, wU, wC]) <;> exact rfl); (simp only [push_cast, seval, cLs, Int.reduceAdd, Int.reduceLT, Int.zero_add] <;> (try simp (disch := omega) only [wI, wU, wC]) <;> exact rfl)) | (apply Run.gfalse (.bool false); (simp only [push_cast, seval, cLs, Int.reduceAdd, Int.reduceLT, Int.zero_add] <;> (try simp (disch := omega) only [wI, wU, wC]) <;> exact rfl); dsimp only [S.put, optG]) | (apply Wp.condT; (simp only [push_cast, seval, cLs, Int.reduceAdd, Int.reduceLT, Int.zero_add] <;> (try simp (disch := omega) only [wI, wU, wC]) <;> exact rfl)) | (apply Wp.condF; (simp only [push_cast, seval, cLs, Int.reduceAdd, Int.reduceLT, Int.zero_add] <;> (try simp (disch := omega) only [wI, wU, wC]) <;> exact rfl)))
          (apply Wp.freeze 2; (simp only [push_cast, seval, cLs, Int.reduceAdd, Int.reduceLT, Int.zero_add] <;> (try simp (disch := omega) only [wI, wU, wC]) <;> exact rfl); (simp only [push_cast, seval, cLs, Int.reduceAdd, Int.reduceLT, Int.zero_add] <;> (try simp (disch := omega) only [wI, wU, wC]) <;> exact rfl); (focus (try simp only [push_cast, seval, cLs, Int.reduceAdd, Int.reduceLT, Int.zero_add]); (try (exact sT))); (focus (exact sT)))
          (apply Wp.ret; (try dsimp only [sQ, tQ, bQ]); apply leave0; exact rfl; (simp only [push_cast, seval, cLs, Int.reduceAdd, Int.reduceLT, Int.zero_add] <;> (try simp (disch := omega) only [wI, wU, wC]) <;> exact rfl); all_goals (try simp only [push_cast, seval, cLs, Int.reduceAdd, Int.reduceLT, Int.zero_add]); (try rfl))
end Go.Proofs.Try
set_option maxHeartbeats 8000000
namespace Go.Proofs.Try
open Go.Vg

theorem VwL.selfsK {m : Mem} : ∀ {xs : List AV}, okL 0 xs → VwL m xs xs
  | [], _ => .nil
  | x :: xs, h => .cons (.self h.1) (VwL.selfsK h.2)
/-! a booking more: the errors ahead of the staff -/
theorem ck_ok {cs : List Ch} {ms : List Ma} {cake : Int} {ls : List Bk} (h : ckE cs ms cake ls = 0) : HV cs ms cake ∧ LV cs ls ∧ ∀ i, i < ls.length → okB cs cake ls i = true := by
  unfold ckE at h
  split at h
  · rename_i h1
    split at h
    · rename_i h2
      split at h
      · rename_i h3
        rw [List.all_eq_true] at h3
        have h4 : ∀ i, i < ls.length → okB cs cake ls i = true := fun i hi => h3 i (List.mem_range.2 hi)
        refine ⟨hoB_ok h1, ⟨h2, fun i hi => ?_, fun i hi => ?_⟩, h4⟩
        · have := h4 i hi
          unfold okB at this
          rw [Bool.and_eq_true] at this
          exact (bkB_bv this.1).1
        · have := h4 i hi
          unfold okB at this
          simp only [Bool.and_eq_true, Bool.or_eq_true, decide_eq_true_eq, wi_iff] at this
          omega
      · cases h
    · cases h
  · cases h
def bgE (cs : List Ch) (ms : List Ma) (cake : Int) (ls : List Bk) (more : Int) : Int := if ckE cs ms cake ls = 0 then (if fitB cs cake ls = true then (if 20 < (ls.length : Int) + more then 2 else 0) else 111) else ckE cs ms cake ls
theorem begin_pure (cs : List Ch) (ms : List Ma) (cake : Int) (ls : List Bk) (more : Int) (hm1 : 0 ≤ more ∧ more ≤ 100) (hc : cs.length ≤ 9223372036854775807) (hm : ms.length ≤ 9223372036854775807) (hl : ls.length ≤ 9223372036854775807) : Pure Try.prog 50 [houA cs ms cake, .lst 6 (ls.map bkA), .int more] (.int (bgE cs ms cake ls more)) := by
  have hck := check_pure cs ms cake ls hc hm hl
  unfold bgE
  by_cases h1 : ckE cs ms cake ls = 0
  · rw [if_pos h1]
    rw [h1] at hck
    obtain ⟨hv, hlv, _⟩ := ck_ok h1
    have hl20 := hlv.l20
    have hf := fits_pure hv hlv
    cases h2 : fitB cs cake ls with
    | false =>
      rw [h2] at hf
      rw [if_neg (by simp)]
      (refine Spec.of_body Try.func50 rfl (by rw [Try.ntmps50]; simp) 0 (by simp) ?_; rw [Try.results50, Try.ntmps50]; simp only [entry, zipArgs, Nat.reduceAdd])
      repeat (first | apply Wp.seq | apply Wp.block | (apply Run.next; (simp only [push_cast, seval] <;> (try simp (disch := omega) only [wI, wU, wC]) <;> exact rfl); (focus ((try simp only [push_cast, seval]) <;> exact sT))) | ((first | apply Run.nil | apply Wp.skip); dsimp only [sQ, tQ, bQ]) | (apply Wp.run; (dsimp only [List.map] <;> exact rfl); exact rfl) | (apply Wp.exit; dsimp only [sQ, tQ, bQ]; simp only [reduceIte]))
      (apply Run.pureP; (simp only [push_cast, seval] <;> (try simp (disch := omega) only [wI, wU, wC]) <;> exact rfl); (exact (Enters.of Try.func39 rfl rfl)); (exact hck); (focus (simp only [push_cast, seval] <;> first | trivial | assumption | (refine ⟨?_, ?_⟩ <;> assumption) | (simp; done))); (try dsimp only [putA, optG]))
      repeat (first | apply Wp.seq | apply Wp.block | (apply Run.next; (simp only [push_cast, seval] <;> (try simp (disch := omega) only [wI, wU, wC]) <;> exact rfl); (focus ((try simp only [push_cast, seval]) <;> exact sT))) | ((first | apply Run.nil | apply Wp.skip); dsimp only [sQ, tQ, bQ]) | (apply Wp.run; (dsimp only [List.map] <;> exact rfl); exact rfl) | (apply Wp.exit; dsimp only [sQ, tQ, bQ]; simp only [reduceIte]) | (apply Run.gtrue; (simp only [push_cast, seval] <;> (try simp (disch := omega) only [wI, wU, wC]) <;> exact rfl); (simp only [push_cast, seval] <;> (try simp (disch := omega) only [wI, wU, wC]) <;> exact rfl)) | (apply Run.gfalse (.bool false); (simp only [push_cast, seval] <;> (try simp (disch := omega) only [wI, wU, wC]) <;> exact rfl); dsimp only [S.put, optG]) | (apply Wp.condT; (simp only [push_cast, seval] <;> (try simp (disch := omega) only [wI, wU, wC]) <;> exact rfl)) | (apply Wp.condF; (simp only [push_cast, seval] <;> (try simp (disch := omega) only [wI, wU, wC]) <;> exact rfl)))
      (apply Run.pureP; (simp only [push_cast, seval] <;> (try simp (disch := omega) only [wI, wU, wC]) <;> exact rfl); (exact (Enters.of Try.func57 rfl rfl)); (exact hf); (focus (simp only [push_cast, seval] <;> first | trivial | assumption | (refine ⟨?_, ?_⟩ <;> assumption) | (simp; done))); (try dsimp only [putA, optG]))
      repeat (first | apply Wp.seq | apply Wp.block | (apply Run.next; (simp only [push_cast, seval] <;> (try simp (disch := omega) only [wI, wU, wC]) <;> exact rfl); (focus ((try simp only [push_cast, seval]) <;> exact sT))) | ((first | apply Run.nil | apply Wp.skip); dsimp only [sQ, tQ, bQ]) | (apply Wp.run; (dsimp only [List.map] <;> exact rfl); exact rfl) | (apply Wp.exit; dsimp only [sQ, tQ, bQ]; simp only [reduceIte]) | (apply Run.gtrue; (simp only [push_cast, seval] <;> (try simp (disch := omega) only [wI, wU, wC]) <;> exact rfl); (simp only [push_cast, seval] <;> (try simp (disch := omega) only [wI, wU, wC]) <;> exact rfl)) | (apply Run.gfalse (.bool false); (simp only [push_cast, seval] <;> (try simp (disch := omega) only [wI, wU, wC]) <;> exact rfl); dsimp only [S.put, optG]) | (apply Wp.condT; (simp only [push_cast, seval] <;> (try simp (disch := omega) only [wI, wU, wC]) <;> exact rfl)) | (apply Wp.condF; (simp only [push_cast, seval] <;> (try simp (disch := omega) only [wI, wU, wC]) <;> exact rfl)))
      (apply Wp.ret; (try dsimp only [sQ, tQ, bQ]); apply leave0; exact rfl; (simp only [push_cast, seval] <;> (try simp (disch := omega) only [wI, wU, wC]) <;> exact rfl); all_goals (try simp only [push_cast, seval]); (try rfl))
    | true =>
      rw [h2] at hf
      rw [if_pos rfl]
      (refine Spec.of_body Try.func50 rfl (by rw [Try.ntmps50]; simp) 0 (by simp) ?_; rw [Try.results50, Try.ntmps50]; simp only [entry, zipArgs, Nat.reduceAdd])
      repeat (first | apply Wp.seq | apply Wp.block | (apply Run.next; (simp only [push_cast, seval] <;> (try simp (disch := omega) only [wI, wU, wC]) <;> exact rfl); (focus ((try simp only [push_cast, seval]) <;> exact sT))) | ((first | apply Run.nil | apply Wp.skip); dsimp only [sQ, tQ, bQ]) | (apply Wp.run; (dsimp only [List.map] <;> exact rfl); exact rfl) | (apply Wp.exit; dsimp only [sQ, tQ, bQ]; simp only [reduceIte]))
      (apply Run.pureP; (simp only [push_cast, seval] <;> (try simp (disch := omega) only [wI, wU, wC]) <;> exact rfl); (exact (Enters.of Try.func39 rfl rfl)); (exact hck); (focus (simp only [push_cast, seval] <;> first | trivial | assumption | (refine ⟨?_, ?_⟩ <;> assumption) | (simp; done))); (try dsimp only [putA, optG]))
      repeat (first | apply Wp.seq | apply Wp.block | (apply Run.next; (simp only [push_cast, seval] <;> (try simp (disch := omega) only [wI, wU, wC]) <;> exact rfl); (focus ((try simp only [push_cast, seval]) <;> exact sT))) | ((first | apply Run.nil | apply Wp.skip); dsimp only [sQ, tQ, bQ]) | (apply Wp.run; (dsimp only [List.map] <;> exact rfl); exact rfl) | (apply Wp.exit; dsimp only [sQ, tQ, bQ]; simp only [reduceIte]) | (apply Run.gtrue; (simp only [push_cast, seval] <;> (try simp (disch := omega) only [wI, wU, wC]) <;> exact rfl); (simp only [push_cast, seval] <;> (try simp (disch := omega) only [wI, wU, wC]) <;> exact rfl)) | (apply Run.gfalse (.bool false); (simp only [push_cast, seval] <;> (try simp (disch := omega) only [wI, wU, wC]) <;> exact rfl); dsimp only [S.put, optG]) | (apply Wp.condT; (simp only [push_cast, seval] <;> (try simp (disch := omega) only [wI, wU, wC]) <;> exact rfl)) | (apply Wp.condF; (simp only [push_cast, seval] <;> (try simp (disch := omega) only [wI, wU, wC]) <;> exact rfl)))
      (apply Run.pureP; (simp only [push_cast, seval] <;> (try simp (disch := omega) only [wI, wU, wC]) <;> exact rfl); (exact (Enters.of Try.func57 rfl rfl)); (exact hf); (focus (simp only [push_cast, seval] <;> first | trivial | assumption | (refine ⟨?_, ?_⟩ <;> assumption) | (simp; done))); (try dsimp only [putA, optG]))
      repeat (first | apply Wp.seq | apply Wp.block | (apply Run.next; (simp only [push_cast, seval] <;> (try simp (disch := omega) only [wI, wU, wC]) <;> exact rfl); (focus ((try simp only [push_cast, seval]) <;> exact sT))) | ((first | apply Run.nil | apply Wp.skip); dsimp only [sQ, tQ, bQ]) | (apply Wp.run; (dsimp only [List.map] <;> exact rfl); exact rfl) | (apply Wp.exit; dsimp only [sQ, tQ, bQ]; simp only [reduceIte]) | (apply Run.gtrue; (simp only [push_cast, seval] <;> (try simp (disch := omega) only [wI, wU, wC]) <;> exact rfl); (simp only [push_cast, seval] <;> (try simp (disch := omega) only [wI, wU, wC]) <;> exact rfl)) | (apply Run.gfalse (.bool false); (simp only [push_cast, seval] <;> (try simp (disch := omega) only [wI, wU, wC]) <;> exact rfl); dsimp only [S.put, optG]) | (apply Wp.condT; (simp only [push_cast, seval] <;> (try simp (disch := omega) only [wI, wU, wC]) <;> exact rfl)) | (apply Wp.condF; (simp only [push_cast, seval] <;> (try simp (disch := omega) only [wI, wU, wC]) <;> exact rfl)))
      (apply Wp.cond; (simp only [push_cast, seval] <;> (try simp (disch := omega) only [wI, wU, wC]) <;> exact rfl))
      · intro h3
        simp only [decide_eq_true_eq] at h3
        repeat (first | apply Wp.seq | apply Wp.block | (apply Run.next; (simp only [push_cast, seval] <;> (try simp (disch := omega) only [wI, wU, wC]) <;> exact rfl); (focus ((try simp only [push_cast, seval]) <;> exact sT))) | ((first | apply Run.nil | apply Wp.skip); dsimp only [sQ, tQ, bQ]) | (apply Wp.run; (dsimp only [List.map] <;> exact rfl); exact rfl) | (apply Wp.exit; dsimp only [sQ, tQ, bQ]; simp only [reduceIte]))
        (apply Wp.ret; (try dsimp only [sQ, tQ, bQ]); apply leave0; exact rfl; (simp only [push_cast, seval] <;> (try simp (disch := omega) only [wI, wU, wC]) <;> exact rfl); all_goals (try simp only [push_cast, seval]); (try rfl))
        rw [if_pos h3]
      · intro h3
        simp only [decide_eq_false_iff_not] at h3
        repeat (first | apply Wp.seq | apply Wp.block | (apply Run.next; (simp only [push_cast, seval] <;> (try simp (disch := omega) only [wI, wU, wC]) <;> exact rfl); (focus ((try simp only [push_cast, seval]) <;> exact sT))) | ((first | apply Run.nil | apply Wp.skip); dsimp only [sQ, tQ, bQ]) | (apply Wp.run; (dsimp only [List.map] <;> exact rfl); exact rfl) | (apply Wp.exit; dsimp only [sQ, tQ, bQ]; simp only [reduceIte]))
        (apply Wp.ret; (try dsimp only [sQ, tQ, bQ]); apply leave0; exact rfl; (simp only [push_cast, seval] <;> (try simp (disch := omega) only [wI, wU, wC]) <;> exact rfl); all_goals (try simp only [push_cast, seval]); (try rfl))
        rw [if_neg h3]
  · rw [if_neg h1]
    have hne : decide (ckE cs ms cake ls = 0) = false := decide_eq_false h1
    (refine Spec.of_body Try.func50 rfl (by rw [Try.ntmps50]; simp) 0 (by simp) ?_; rw [Try.results50, Try.ntmps50]; simp only [entry, zipArgs, Nat.reduceAdd])
    repeat (first | apply Wp.seq | apply Wp.block | (apply Run.next; (simp only [push_cast, seval, hne] <;> (try simp (disch := omega) only [wI, wU, wC]) <;> exact rfl); (focus ((try simp only [push_cast, seval, hne]) <;> exact sT))) | ((first | apply Run.nil | apply Wp.skip); dsimp only [sQ, tQ, bQ]) | (apply Wp.run; (dsimp only [List.map] <;> exact rfl); exact rfl) | (apply Wp.exit; dsimp only [sQ, tQ, bQ]; simp only [reduceIte]))
    (apply Run.pureP; (simp only [push_cast, seval, hne] <;> (try simp (disch := omega) only [wI, wU, wC]) <;> exact rfl); (exact (Enters.of Try.func39 rfl rfl)); (exact hck); (focus (simp only [push_cast, seval, hne] <;> first | trivial | assumption | (refine ⟨?_, ?_⟩ <;> assumption) | (simp; done))); (try dsimp only [putA, optG]))
    repeat (first | apply Wp.seq | apply Wp.block | (apply Run.next; (simp only [push_cast, seval, hne] <;> (try simp (disch := omega) only [wI, wU, wC]) <;> exact rfl); (focus ((try simp only [push_cast, seval, hne]) <;> exact sT))) | ((first | apply Run.nil | apply Wp.skip); dsimp only [sQ, tQ, bQ]) | (apply Wp.run; (dsimp only [List.map] <;> exact rfl); exact rfl) | (apply Wp.exit; dsimp only [sQ, tQ, bQ]; simp only [reduceIte]) | (apply Run.gtrue; (simp only [push_cast, seval, hne] <;> (try simp (disch := omega) only [wI, wU, wC]) <;> exact rfl); (simp only [push_cast, seval, hne] <;> (try simp (disch := omega) only [wI, wU, wC]) <;> exact rfl)) | (apply Run.gfalse (.bool false); (simp only [push_cast, seval, hne] <;> (try simp (disch := omega) only [wI, wU, wC]) <;> exact rfl); dsimp only [S.put, optG]) | (apply Wp.condT; (simp only [push_cast, seval, hne] <;> (try simp (disch := omega) only [wI, wU, wC]) <;> exact rfl)) | (apply Wp.condF; (simp only [push_cast, seval, hne] <;> (try simp (disch := omega) only [wI, wU, wC]) <;> exact rfl)))
    (apply Wp.ret; (try dsimp only [sQ, tQ, bQ]); apply leave0; exact rfl; (simp only [push_cast, seval, hne] <;> (try simp (disch := omega) only [wI, wU, wC]) <;> exact rfl); all_goals (try simp only [push_cast, seval, hne]); (try rfl))
theorem added1_pure {cs : List Ch} {ms : List Ma} {cake : Int} (hv : HV cs ms cake) (b : Bk) : Pure Try.prog 84 [bkA b, .ref [.lst 4 (cs.map chA), .lst 3 (ms.map maA), .int cake] 0] (.bool (!bkB cs cake b)) := by
  have hb := booked_pure hv b
  (refine Spec.of_body Try.func84 rfl (by rw [Try.ntmps84]; simp) 0 (by simp) ?_; rw [Try.results84, Try.ntmps84]; simp only [entry, zipArgs, Nat.reduceAdd])
  repeat (first | apply Wp.seq | apply Wp.block | (apply Run.next; (simp only [push_cast, seval] <;> (try simp (disch := omega) only [wI, wU, wC]) <;> exact rfl); (focus ((try simp only [push_cast, seval]) <;> exact sT))) | ((first | apply Run.nil | apply Wp.skip); dsimp only [sQ, tQ, bQ]) | (apply Wp.run; (dsimp only [List.map] <;> exact rfl); exact rfl) | (apply Wp.exit; dsimp only [sQ, tQ, bQ]; simp only [reduceIte]))
  (apply Run.pureP; (simp only [push_cast, seval] <;> (try simp (disch := omega) only [wI, wU, wC]) <;> exact rfl); (exact (Enters.of Try.func73 rfl rfl)); (exact hb); (focus (simp only [push_cast, seval] <;> first | trivial | assumption | (refine ⟨?_, ?_⟩ <;> assumption) | (simp; done))); (try dsimp only [putA, optG]))
  repeat (first | apply Wp.seq | apply Wp.block | (apply Run.next; (simp only [push_cast, seval] <;> (try simp (disch := omega) only [wI, wU, wC]) <;> exact rfl); (focus ((try simp only [push_cast, seval]) <;> exact sT))) | ((first | apply Run.nil | apply Wp.skip); dsimp only [sQ, tQ, bQ]) | (apply Wp.run; (dsimp only [List.map] <;> exact rfl); exact rfl) | (apply Wp.exit; dsimp only [sQ, tQ, bQ]; simp only [reduceIte]))
  (apply Wp.ret; (try dsimp only [sQ, tQ, bQ]); apply leave0; exact rfl; (simp only [push_cast, seval] <;> (try simp (disch := omega) only [wI, wU, wC]) <;> exact rfl); all_goals (try simp only [push_cast, seval]); (try rfl))
theorem added_nofit {cs : List Ch} {ms : List Ma} {cake : Int} {ls : List Bk} (hv : HV cs ms cake) (hl : LV cs ls) (hl2 : ls.length < 20) (b : Bk) (hr : b.rival = -1) (hb : bkB cs cake b = true) (hf : fitB cs cake (ls ++ [b]) = false) :
    Pure Try.prog 51 [houA cs ms cake, .lst 6 (ls.map bkA), .lst 6 [bkA b]] (.tup [.emp, .int 111]) := by
  have hcf := containsFuncBk [b] 84 [.ref [.lst 4 (cs.map chA), .lst 3 (ms.map maA), .int cake] 0] (fun x => !bkB cs cake x) (Enters.of Try.func84 rfl rfl) ⟨by simp only [push_cast], trivial⟩ (fun _ => ⟨rfl, rfl⟩) (fun x _ => added1_pure hv x) (by simp)
  rw [show ([b].any fun x => !bkB cs cake x) = false by simp [hb]] at hcf
  have hg : ∀ i, i < (ls ++ [b]).length → (i < ls.length ∧ (ls ++ [b]).getD i bk0 = ls.getD i bk0) ∨ (ls ++ [b]).getD i bk0 = b := by
    intro i hi
    simp only [List.length_append, List.length_singleton] at hi
    rcases Nat.lt_or_ge i ls.length with h | h
    · left; refine ⟨h, ?_⟩; simp only [List.getD_eq_getElem?_getD, List.getElem?_append_left h]
    · right
      obtain rfl : i = ls.length := by omega
      simp
  have hlv : LV cs (ls ++ [b]) := by
    refine ⟨by simp; omega, fun i hi => ?_, fun i hi => ?_⟩
    · rcases hg i hi with ⟨h1, h2⟩ | h2
      · rw [h2]; exact hl.bv i h1
      · rw [h2]; exact (bkB_bv hb).1
    · rcases hg i hi with ⟨h1, h2⟩ | h2
      · rw [h2]; have := hl.rv i h1; simp only [List.length_append, List.length_singleton]; omega
      · rw [h2, hr]; simp only [List.length_append, List.length_singleton]; omega
  have hfit := fits_pure hv hlv
  rw [hf] at hfit
  have hcc := concat_pure ls [b] (by simp) (by omega) (by simp)
  (refine Spec.of_body Try.func51 rfl (by rw [Try.ntmps51]; simp) 0 (by simp) ?_; rw [Try.results51, Try.ntmps51]; simp only [entry, zipArgs, Nat.reduceAdd])
  repeat (first | apply Wp.seq | apply Wp.block | (apply Run.next; (simp only [push_cast, seval] <;> (try simp (disch := omega) only [wI, wU, wC]) <;> exact rfl); (focus ((try simp only [push_cast, seval]) <;> exact sT))) | ((first | apply Run.nil | apply Wp.skip); dsimp only [sQ, tQ, bQ]) | (apply Wp.run; (dsimp only [List.map] <;> exact rfl); exact rfl) | (apply Wp.exit; dsimp only [sQ, tQ, bQ]; simp only [reduceIte]))
  (apply Run.pureW; (simp only [push_cast, seval] <;> (try simp (disch := omega) only [wI, wU, wC]) <;> exact rfl); (exact (Enters.of Try.func83 rfl rfl)); (exact hcf); (exact VwL.cons (Vw.self (by simp only [push_cast])) (VwL.cons (Vw.clo (VwL.cons (Vw.optr (sz := 3) rfl rfl (by simp [AV.cells]) (VwL.selfsK (by simp only [push_cast]))) VwL.nil)) VwL.nil)); (simp only [push_cast, seval] <;> first | trivial | assumption | (refine ⟨?_, ?_⟩ <;> assumption) | (simp; done)); (try dsimp only [putA, optG]))
  repeat (first | apply Wp.seq | apply Wp.block | (apply Run.next; (simp only [push_cast, seval] <;> (try simp (disch := omega) only [wI, wU, wC]) <;> exact rfl); (focus ((try simp only [push_cast, seval]) <;> exact sT))) | ((first | apply Run.nil | apply Wp.skip); dsimp only [sQ, tQ, bQ]) | (apply Wp.run; (dsimp only [List.map] <;> exact rfl); exact rfl) | (apply Wp.exit; dsimp only [sQ, tQ, bQ]; simp only [reduceIte]) | (apply Run.gtrue; (simp only [push_cast, seval] <;> (try simp (disch := omega) only [wI, wU, wC]) <;> exact rfl); (simp only [push_cast, seval] <;> (try simp (disch := omega) only [wI, wU, wC]) <;> exact rfl)) | (apply Run.gfalse (.bool false); (simp only [push_cast, seval] <;> (try simp (disch := omega) only [wI, wU, wC]) <;> exact rfl); dsimp only [S.put, optG]) | (apply Wp.condT; (simp only [push_cast, seval] <;> (try simp (disch := omega) only [wI, wU, wC]) <;> exact rfl)) | (apply Wp.condF; (simp only [push_cast, seval] <;> (try simp (disch := omega) only [wI, wU, wC]) <;> exact rfl)))
  (apply Run.pureFP; (simp only [push_cast, seval] <;> (try simp (disch := omega) only [wI, wU, wC]) <;> exact rfl); (exact (Enters.of Try.func85 rfl rfl)); (exact hcc); (focus (simp only [push_cast, seval] <;> first | trivial | assumption | (refine ⟨?_, ?_⟩ <;> assumption) | (simp; done))); (try dsimp only [putA, optG]))
  repeat (first | apply Wp.seq | apply Wp.block | (apply Run.next; (simp only [push_cast, seval] <;> (try simp (disch := omega) only [wI, wU, wC]) <;> exact rfl); (focus ((try simp only [push_cast, seval]) <;> exact sT))) | ((first | apply Run.nil | apply Wp.skip); dsimp only [sQ, tQ, bQ]) | (apply Wp.run; (dsimp only [List.map] <;> exact rfl); exact rfl) | (apply Wp.exit; dsimp only [sQ, tQ, bQ]; simp only [reduceIte]) | (apply Run.gtrue; (simp only [push_cast, seval] <;> (try simp (disch := omega) only [wI, wU, wC]) <;> exact rfl); (simp only [push_cast, seval] <;> (try simp (disch := omega) only [wI, wU, wC]) <;> exact rfl)) | (apply Run.gfalse (.bool false); (simp only [push_cast, seval] <;> (try simp (disch := omega) only [wI, wU, wC]) <;> exact rfl); dsimp only [S.put, optG]) | (apply Wp.condT; (simp only [push_cast, seval] <;> (try simp (disch := omega) only [wI, wU, wC]) <;> exact rfl)) | (apply Wp.condF; (simp only [push_cast, seval] <;> (try simp (disch := omega) only [wI, wU, wC]) <;> exact rfl)))
  (apply Run.pureP; (simp only [push_cast, seval] <;> (try simp (disch := omega) only [wI, wU, wC]) <;> exact rfl); (exact (Enters.of Try.func57 rfl rfl)); (exact hfit); (focus (simp only [push_cast, seval] <;> first | trivial | assumption | (refine ⟨?_, ?_⟩ <;> assumption) | (simp; done))); (try dsimp only [putA, optG]))
  repeat (first | apply Wp.seq | apply Wp.block | (apply Run.next; (simp only [push_cast, seval] <;> (try simp (disch := omega) only [wI, wU, wC]) <;> exact rfl); (focus ((try simp only [push_cast, seval]) <;> exact sT))) | ((first | apply Run.nil | apply Wp.skip); dsimp only [sQ, tQ, bQ]) | (apply Wp.run; (dsimp only [List.map] <;> exact rfl); exact rfl) | (apply Wp.exit; dsimp only [sQ, tQ, bQ]; simp only [reduceIte]) | (apply Run.gtrue; (simp only [push_cast, seval] <;> (try simp (disch := omega) only [wI, wU, wC]) <;> exact rfl); (simp only [push_cast, seval] <;> (try simp (disch := omega) only [wI, wU, wC]) <;> exact rfl)) | (apply Run.gfalse (.bool false); (simp only [push_cast, seval] <;> (try simp (disch := omega) only [wI, wU, wC]) <;> exact rfl); dsimp only [S.put, optG]) | (apply Wp.condT; (simp only [push_cast, seval] <;> (try simp (disch := omega) only [wI, wU, wC]) <;> exact rfl)) | (apply Wp.condF; (simp only [push_cast, seval] <;> (try simp (disch := omega) only [wI, wU, wC]) <;> exact rfl)))
  (apply Wp.ret; (try dsimp only [sQ, tQ, bQ]); apply leave0; exact rfl; (simp only [push_cast, seval] <;> (try simp (disch := omega) only [wI, wU, wC]) <;> exact rfl); all_goals (try simp only [push_cast, seval]); (try rfl))
theorem add_nofit {cs : List Ch} {ms : List Ma} {cake : Int} {ls : List Bk} (hbg : bgE cs ms cake ls 1 = 0) (b : Bk) (hr : b.rival = -1) (hb : bkB cs cake b = true) (hf : fitB cs cake (ls ++ [b]) = false) :
    Pure Try.prog 19 [houA cs ms cake, .lst 6 (ls.map bkA), bkA b] (.tup [.emp, .int 111]) := by
  have hck : ckE cs ms cake ls = 0 := by
    unfold bgE at hbg
    split at hbg
    · assumption
    · exact hbg
  obtain ⟨hv, hlv, _⟩ := ck_ok hck
  have hl2 : ls.length < 20 := by
    unfold bgE at hbg
    rw [if_pos hck] at hbg
    split at hbg
    · split at hbg
      · cases hbg
      · omega
    · cases hbg
  have hc6 := hv.c6
  have hm6 := hv.m6
  have h1 := begin_pure cs ms cake ls 1 (by omega) (by omega) (by omega) (by omega)
  rw [hbg] at h1
  have h2 := added_nofit hv hlv hl2 b hr hb hf
  have hre : decide (b.rival = -1) = true := decide_eq_true hr
  (refine Spec.of_body Try.func19 rfl (by rw [Try.ntmps19]; simp) 0 (by simp) ?_; rw [Try.results19, Try.ntmps19]; simp only [entry, zipArgs, Nat.reduceAdd])
  repeat (first | apply Wp.seq | apply Wp.block | (apply Run.next; (simp only [push_cast, seval, hre] <;> (try simp (disch := omega) only [wI, wU, wC]) <;> exact rfl); (focus ((try simp only [push_cast, seval, hre]) <;> exact sT))) | ((first | apply Run.nil | apply Wp.skip); dsimp only [sQ, tQ, bQ]) | (apply Wp.run; (dsimp only [List.map] <;> exact rfl); exact rfl) | (apply Wp.exit; dsimp only [sQ, tQ, bQ]; simp only [reduceIte]))
  (apply Run.pureP; (simp only [push_cast, seval, hre] <;> (try simp (disch := omega) only [wI, wU, wC]) <;> exact rfl); (exact (Enters.of Try.func50 rfl rfl)); (exact h1); (focus (simp only [push_cast, seval, hre] <;> first | trivial | assumption | (refine ⟨?_, ?_⟩ <;> assumption) | (simp; done))); (try dsimp only [putA, optG]))
  repeat (first | apply Wp.seq | apply Wp.block | (apply Run.next; (simp only [push_cast, seval, hre] <;> (try simp (disch := omega) only [wI, wU, wC]) <;> exact rfl); (focus ((try simp only [push_cast, seval, hre]) <;> exact sT))) | ((first | apply Run.nil | apply Wp.skip); dsimp only [sQ, tQ, bQ]) | (apply Wp.run; (dsimp only [List.map] <;> exact rfl); exact rfl) | (apply Wp.exit; dsimp only [sQ, tQ, bQ]; simp only [reduceIte]) | (apply Run.gtrue; (simp only [push_cast, seval, hre] <;> (try simp (disch := omega) only [wI, wU, wC]) <;> exact rfl); (simp only [push_cast, seval, hre] <;> (try simp (disch := omega) only [wI, wU, wC]) <;> exact rfl)) | (apply Run.gfalse (.bool false); (simp only [push_cast, seval, hre] <;> (try simp (disch := omega) only [wI, wU, wC]) <;> exact rfl); dsimp only [S.put, optG]) | (apply Wp.condT; (simp only [push_cast, seval, hre] <;> (try simp (disch := omega) only [wI, wU, wC]) <;> exact rfl)) | (apply Wp.condF; (simp only [push_cast, seval, hre] <;> (try simp (disch := omega) only [wI, wU, wC]) <;> exact rfl)))
  (apply Run.pureFP; (simp only [push_cast, seval, hre] <;> (try simp (disch := omega) only [wI, wU, wC]) <;> exact rfl); (exact (Enters.of Try.func51 rfl rfl)); (exact h2); (focus (simp only [push_cast, seval, hre] <;> first | trivial | assumption | (refine ⟨?_, ?_⟩ <;> assumption) | (simp; done))); (try dsimp only [putA, optG]))
  repeat (first | apply Wp.seq | apply Wp.block | (apply Run.next; (simp only [push_cast, seval, hre] <;> (try simp (disch := omega) only [wI, wU, wC]) <;> exact rfl); (focus ((try simp only [push_cast, seval, hre]) <;> exact sT))) | ((first | apply Run.nil | apply Wp.skip); dsimp only [sQ, tQ, bQ]) | (apply Wp.run; (dsimp only [List.map] <;> exact rfl); exact rfl) | (apply Wp.exit; dsimp only [sQ, tQ, bQ]; simp only [reduceIte]) | (apply Run.gtrue; (simp only [push_cast, seval, hre] <;> (try simp (disch := omega) only [wI, wU, wC]) <;> exact rfl); (simp only [push_cast, seval, hre] <;> (try simp (disch := omega) only [wI, wU, wC]) <;> exact rfl)) | (apply Run.gfalse (.bool false); (simp only [push_cast, seval, hre] <;> (try simp (disch := omega) only [wI, wU, wC]) <;> exact rfl); dsimp only [S.put, optG]) | (apply Wp.condT; (simp only [push_cast, seval, hre] <;> (try simp (disch := omega) only [wI, wU, wC]) <;> exact rfl)) | (apply Wp.condF; (simp only [push_cast, seval, hre] <;> (try simp (disch := omega) only [wI, wU, wC]) <;> exact rfl)))
  (apply Wp.ret; (try dsimp only [sQ, tQ, bQ]); apply leave0; exact rfl; (simp only [push_cast, seval, hre] <;> (try simp (disch := omega) only [wI, wU, wC]) <;> exact rfl); all_goals (try simp only [push_cast, seval, hre]); (try rfl))
end Go.Proofs.Try
set_option maxHeartbeats 8000000
set_option maxRecDepth 20000
namespace Go.Proofs.Try
open Go.Vg

/-! a rota in memory, and whether bookings are possible -/
def rotM (N : Nat) (cs : List Ch) (ms : List Ma) (cake : Int) (ls : List Bk) (o : List Nat) (stf : List Int) (x6 : AV) : Mem :=
  [⟨0, .row 3 [houA cs ms cake]⟩, ⟨0, .row 1 [.lst 6 (ls.map bkA)]⟩, ⟨0, .row 1 (stf.map AV.int)⟩, ⟨0, .row 7 [rotA cs ms cake ls (.osl (N + 4) ls.length 0 ls.length) (.osl (N + 2) 0 0 ls.length) x6]⟩, ⟨ls.length, .row 1 ((cL o).map AV.int)⟩]
theorem shL_ch (k : Nat) (l : List Ch) : shiftL k (l.map chA) = l.map chA := shiftL_plain k _ (by
  induction l with
  | nil => trivial
  | cons a l ih => exact ⟨by simp [chA, AV.plain, plainL], ih⟩)
theorem shL_ma (k : Nat) (l : List Ma) : shiftL k (l.map maA) = l.map maA := shiftL_plain k _ (by
  induction l with
  | nil => trivial
  | cons a l ih => exact ⟨by simp [maA, AV.plain, plainL], ih⟩)
theorem shL_bk (k : Nat) (l : List Bk) : shiftL k (l.map bkA) = l.map bkA := shiftL_plain k _ (by
  induction l with
  | nil => trivial
  | cons a l ih => exact ⟨by simp [bkA, AV.plain, plainL], ih⟩)
theorem shL_in (k : Nat) (l : List Int) : shiftL k (l.map AV.int) = l.map AV.int := shiftL_plain k _ (by
  induction l with
  | nil => trivial
  | cons a l ih => exact ⟨by simp [AV.plain], ih⟩)
theorem rotM_shift (k : Nat) (cs : List Ch) (ms : List Ma) (cake : Int) (ls : List Bk) (o : List Nat) (stf : List Int) : (rotM 0 cs ms cake ls o stf .emp).map (fun (e : Ent) => (⟨e.ver, e.kind.shift k⟩ : Ent)) = rotM k cs ms cake ls o stf .emp := by
  simp only [rotM, List.map_cons, List.map_nil, Kind.shift, shiftL, AV.shift, shL_ch, shL_ma, shL_bk, shL_in, Nat.zero_add]
/-- bookings that are valid each -/
structure PW (cs : List Ch) (ms : List Ma) (cake : Int) (ls : List Bk) : Prop where
  hv : HV cs ms cake
  lv : LV cs ls
  tg : ∀ i, i < ls.length → 0 ≤ (ls.getD i bk0).tongue ∧ (ls.getD i bk0).tongue ≤ 7
  en : ∀ i, i < ls.length → endG cs (ls.getD i bk0) ≤ 1440
theorem endG_R {cs : List Ch} {ms : List Ma} {cake : Int} (hv : HV cs ms cake) {b : Bk} (hb : BV cs b) : endG cs b ≤ endR cs cake b := by
  have h := hv.ch b.ch.toNat (by have := hb.ch; omega)
  have hck := hv.ck
  unfold endR; split <;> omega
theorem PW.of_ck {cs : List Ch} {ms : List Ma} {cake : Int} {ls : List Bk} (h : ckE cs ms cake ls = 0) : PW cs ms cake ls := by
  obtain ⟨hv, lv, hok⟩ := ck_ok h
  have hb : ∀ i, i < ls.length → bkB cs cake (ls.getD i bk0) = true := fun i hi => by
    have := hok i hi
    unfold okB at this
    rw [Bool.and_eq_true] at this
    exact this.1
  refine ⟨hv, lv, fun i hi => (bkB_bv (hb i hi)).2.1, fun i hi => ?_⟩
  have h1 := bkB_bv (hb i hi)
  have := endG_R hv h1.1
  omega
theorem PW.hen {cs : List Ch} {ms : List Ma} {cake : Int} {ls : List Bk} (h : PW cs ms cake ls) : ∀ x, x < ls.length → 0 ≤ (ls.getD x bk0).st ∧ (ls.getD x bk0).st < endG cs (ls.getD x bk0) := fun x hx => by
  have h1 := endG_bd2 h.hv (h.lv.bv x hx)
  have h2 := (h.lv.bv x hx).st
  omega
theorem PW.pv {cs : List Ch} {ms : List Ma} {cake : Int} {ls : List Bk} (h : PW cs ms cake ls) {o : List Nat} (ho : OV ls o) {stf : List Int} (hs : stf.length = ls.length) : PV cs ms cake ls o stf := by
  have hl : o.length = ls.length := by rw [ho.perm.length_eq, List.length_range]
  refine ⟨h.hv, h.lv, h.tg, h.en, hl, fun i hi => ?_, hs⟩
  have h1 : o.getD i 0 ∈ o := by simp [hi]
  exact List.mem_range.1 (ho.perm.mem_iff.1 h1)
theorem psB_rF {cs : List Ch} {ms : List Ma} {cake : Int} {ls : List Bk} (h : PW cs ms cake ls) {o : List Nat} (ho : OV ls o) : rF cs ms ls (List.replicate ls.length (-1)) o Z6 = psB cs ms ls := by
  rw [Bool.eq_iff_iff, rota_iff h.hv.m6 h.hen ho, psB_iff]
  constructor
  · rintro ⟨a, ha, _⟩; exact ⟨a, ha⟩
  · rintro ⟨a, ha⟩
    refine ⟨a, ha, fun x hx h1 => ?_⟩
    simp [hx] at h1
theorem newRota_spec2 {cs : List Ch} {ms : List Ma} {cake : Int} {ls : List Bk} (h : PW cs ms cake ls) : Go.Vg.Spec Try.prog 59 [houA cs ms cake, .lst 6 (ls.map bkA)] [] (fun y m' => y = .optr 3 0 0 0 ∧ ∃ o, OV ls o ∧ m' = rotM 0 cs ms cake ls o (List.replicate ls.length (-1)) .emp) :=
  newRota_spec h.lv.l20 (fun i hi => (h.lv.bv i hi).st)
/-- possible, over a rota that lies behind one entry -/
theorem possible1_spec {cs : List Ch} {ms : List Ma} {cake : Int} {ls : List Bk} (h : PW cs ms cake ls) {o : List Nat} (ho : OV ls o) {stf : List Int} (hs : stf.length = ls.length) {e0 : Ent} {x6 : AV} (he : ∀ k, e0.kind.ok k) :
    Go.Vg.Spec Try.prog 60 [.optr 4 0 0 0] (e0 :: rotM 1 cs ms cake ls o stf x6) (fun y m' => y = .bool (rF cs ms ls stf o Z6) ∧ m' = e0 :: rotM 1 cs ms cake ls o stf .any) := by
  refine possible_spec (M := e0 :: rotM 1 cs ms cake ls o stf x6) (r := 4) (vr := 0) (io := 5) (vo := ls.length) (is := 3) (vs := 0) (x6 := x6) (h.pv ho hs) rfl rfl rfl (by decide) (by decide) ?_
  intro e hmem
  simp only [rotM, List.set_cons_succ, List.set_cons_zero, List.mem_cons, List.not_mem_nil, or_false] at hmem
  rcases hmem with rfl | rfl | rfl | rfl | rfl | rfl
  · exact he _
  · simp [Kind.ok, AV.ok, okL, okL_ch, okL_ma]
  · simp [Kind.ok, AV.ok, okL, okL_bk]
  · simp [Kind.ok, okL_int]
  · simp [Kind.ok, AV.ok, okL, okL_ch, okL_ma, okL_bk, rotM]
  · simp [Kind.ok, okL_int]
theorem possib_pure {cs : List Ch} {ms : List Ma} {cake : Int} {ls : List Bk} (h : PW cs ms cake ls) : Pure Try.prog 80 [houA cs ms cake, .lst 6 (ls.map bkA)] (.bool (psB cs ms ls)) := by
  have h1 := newRota_spec2 h
  (refine Spec.of_body Try.func80 rfl (by rw [Try.ntmps80]; simp) 0 (by simp) ?_; rw [Try.results80, Try.ntmps80]; simp only [entry, zipArgs, Nat.reduceAdd])
  repeat (first | apply Wp.seq | apply Wp.block | (apply Run.next; (simp only [push_cast, seval] <;> (try simp (disch := omega) only [wI, wU, wC]) <;> exact rfl); (focus ((try simp only [push_cast, seval]) <;> exact sT))) | ((first | apply Run.nil | apply Wp.skip); dsimp only [sQ, tQ, bQ]) | (apply Wp.run; (dsimp only [List.map] <;> exact rfl); exact rfl) | (apply Wp.exit; dsimp only [sQ, tQ, bQ]; simp only [reduceIte]))
  apply Run.fresh (he := Enters.of Try.func59 rfl rfl) (hc := h1)
  · exact rfl
  · (simp only [push_cast, seval] <;> (try simp (disch := omega) only [wI, wU, wC]) <;> exact rfl)
  · simp [AV.ok, okL, okL_ch, okL_ma, okL_bk]
  · rintro _ _ ⟨rfl, o, ho, rfl⟩
    have h2 := possible1_spec h ho (stf := List.replicate ls.length (-1)) (by simp) (e0 := ⟨0, .row 3 [houA cs ms cake]⟩) (x6 := .emp) (fun k => by simp [Kind.ok, AV.ok, okL, okL_ch, okL_ma])
    rw [psB_rF h ho] at h2
    rw [rotM_shift]
    dsimp only [S.put, optG]
    apply Run.spec (he := Enters.of Try.func60 rfl rfl) (hc := h2)
    · exact rfl
    · exact rfl
    · (simp only [push_cast, seval] <;> (try simp (disch := omega) only [wI, wU, wC]) <;> exact rfl)
    · rintro _ _ ⟨rfl, rfl⟩
      dsimp only [S.put, optG]
      repeat (first | apply Wp.seq | apply Wp.block | (apply Run.next; (simp only [push_cast, seval] <;> (try simp (disch := omega) only [wI, wU, wC]) <;> exact rfl); (focus ((try simp only [push_cast, seval]) <;> exact sT))) | ((first | apply Run.nil | apply Wp.skip); dsimp only [sQ, tQ, bQ]) | (apply Wp.run; (dsimp only [List.map] <;> exact rfl); exact rfl) | (apply Wp.exit; dsimp only [sQ, tQ, bQ]; simp only [reduceIte]))
      (apply Wp.ret; (try dsimp only [sQ, tQ, bQ]); apply leave0; exact rfl; (simp only [push_cast, seval] <;> (try simp (disch := omega) only [wI, wU, wC]) <;> exact rfl); all_goals (try simp only [push_cast, seval]); (try rfl))
end Go.Proofs.Try
set_option maxHeartbeats 8000000
set_option maxRecDepth 20000
namespace Go.Proofs.Try
open Go.Vg

/-! the document's search for a staff -/
def stA (s : Option (List Int)) : AV := match s with
  | some l => .ints l
  | none => .emp
end Go.Proofs.Try
set_option maxHeartbeats 8000000
namespace Go.Proofs.Try
open Go.Vg

theorem okB_r (cs : List Ch) (cake : Int) (ls : List Bk) (i : Nat) : okB cs cake ls i = !(!bkB cs cake (ls.getD i bk0) || !wi (ls.getD i bk0).rival (-1) ((ls.length : Int) - 1) || decide ((ls.getD i bk0).rival = (i : Int)) || (decide (0 ≤ (ls.getD i bk0).rival) && !decide ((ls.getD (ls.getD i bk0).rival.toNat bk0).rival = (i : Int)))) := by
  unfold okB
  generalize (ls.getD i bk0).rival = r
  generalize bkB cs cake (ls.getD i bk0) = p
  generalize decide ((ls.getD r.toNat bk0).rival = (i : Int)) = q
  by_cases h1 : r = -1
  · subst h1
    have e1 : decide ((-1 : Int) = (i : Int)) = false := decide_eq_false (by omega)
    have e2 : wi (-1) (-1) ((ls.length : Int) - 1) = true := by rw [wi_iff]; omega
    rw [e1, e2]; cases p <;> simp
  · have e1 : decide (r = -1) = false := decide_eq_false h1
    rw [e1]
    by_cases h2 : 0 ≤ r
    · have e2 : wi r (-1) ((ls.length : Int) - 1) = wi r 0 ((ls.length : Int) - 1) := by
        unfold wi; rw [decide_eq_true h2, decide_eq_true (show -1 ≤ r by omega)]
      rw [e2, decide_eq_true h2]
      generalize wi r 0 ((ls.length : Int) - 1) = u
      generalize decide (r = (i : Int)) = v
      cases p <;> cases q <;> cases u <;> cases v <;> rfl
    · have e2 : wi r 0 ((ls.length : Int) - 1) = false := by unfold wi; rw [decide_eq_false h2]; rfl
      have e3 : wi r (-1) ((ls.length : Int) - 1) = false := by unfold wi; rw [decide_eq_false (show ¬ -1 ≤ r by omega)]; rfl
      rw [e2, e3]
      cases p <;> cases decide (r = (i : Int)) <;> rfl
theorem rcheck_pure (cs : List Ch) (ms : List Ma) (cake : Int) (ls : List Bk) (hc : cs.length ≤ 9223372036854775807) (hm : ms.length ≤ 9223372036854775807) (hl : ls.length ≤ 9223372036854775807) : Pure Try.prog 26 [houA cs ms cake, .lst 6 (ls.map bkA)] (.int (ckE cs ms cake ls)) := by
  have hho := ckHouse_pure cs ms cake hc hm
  unfold ckE
  cases h1 : hoB cs ms cake with
  | false =>
    rw [h1, if_neg (by simp)] at hho
    rw [if_neg (by simp)]
    (refine Spec.of_body Try.func26 rfl (by rw [Try.ntmps26]; simp) 0 (by simp) ?_; rw [Try.results26, Try.ntmps26]; simp only [entry, zipArgs, Nat.reduceAdd])
    repeat (first | apply Wp.seq | apply Wp.block | (apply Run.next; (simp only [push_cast, seval] <;> (try simp (disch := omega) only [wI, wU, wC]) <;> exact rfl); (focus ((try simp only [push_cast, seval]) <;> exact sT))) | ((first | apply Run.nil | apply Wp.skip); dsimp only [sQ, tQ, bQ]) | (apply Wp.run; (dsimp only [List.map] <;> exact rfl); exact rfl) | (apply Wp.exit; dsimp only [sQ, tQ, bQ]; simp only [reduceIte]))
    (apply Run.pureP; (simp only [push_cast, seval] <;> (try simp (disch := omega) only [wI, wU, wC]) <;> exact rfl); (exact (Enters.of Try.func55 rfl rfl)); (exact hho); (focus (simp only [push_cast, seval] <;> first | trivial | assumption | (refine ⟨?_, ?_⟩ <;> assumption) | (simp; done))); (try dsimp only [putA, optG]))
    repeat (first | apply Wp.seq | apply Wp.block | (apply Run.next; (simp only [push_cast, seval] <;> (try simp (disch := omega) only [wI, wU, wC]) <;> exact rfl); (focus ((try simp only [push_cast, seval]) <;> exact sT))) | ((first | apply Run.nil | apply Wp.skip); dsimp only [sQ, tQ, bQ]) | (apply Wp.run; (dsimp only [List.map] <;> exact rfl); exact rfl) | (apply Wp.exit; dsimp only [sQ, tQ, bQ]; simp only [reduceIte]) | (apply Run.gtrue; (simp only [push_cast, seval] <;> (try simp (disch := omega) only [wI, wU, wC]) <;> exact rfl); (simp only [push_cast, seval] <;> (try simp (disch := omega) only [wI, wU, wC]) <;> exact rfl)) | (apply Run.gfalse (.bool false); (simp only [push_cast, seval] <;> (try simp (disch := omega) only [wI, wU, wC]) <;> exact rfl); dsimp only [S.put, optG]) | (apply Wp.condT; (simp only [push_cast, seval] <;> (try simp (disch := omega) only [wI, wU, wC]) <;> exact rfl)) | (apply Wp.condF; (simp only [push_cast, seval] <;> (try simp (disch := omega) only [wI, wU, wC]) <;> exact rfl)))
    (apply Wp.ret; (try dsimp only [sQ, tQ, bQ]); apply leave0; exact rfl; (simp only [push_cast, seval] <;> (try simp (disch := omega) only [wI, wU, wC]) <;> exact rfl); all_goals (try simp only [push_cast, seval]); (try rfl))
  | true =>
    rw [h1, if_pos rfl] at hho
    rw [if_pos rfl]
    have hv := hoB_ok h1
    (refine Spec.of_body Try.func26 rfl (by rw [Try.ntmps26]; simp) 0 (by simp) ?_; rw [Try.results26, Try.ntmps26]; simp only [entry, zipArgs, Nat.reduceAdd])
    repeat (first | apply Wp.seq | apply Wp.block | (apply Run.next; (simp only [push_cast, seval] <;> (try simp (disch := omega) only [wI, wU, wC]) <;> exact rfl); (focus ((try simp only [push_cast, seval]) <;> exact sT))) | ((first | apply Run.nil | apply Wp.skip); dsimp only [sQ, tQ, bQ]) | (apply Wp.run; (dsimp only [List.map] <;> exact rfl); exact rfl) | (apply Wp.exit; dsimp only [sQ, tQ, bQ]; simp only [reduceIte]))
    (apply Run.pureP; (simp only [push_cast, seval] <;> (try simp (disch := omega) only [wI, wU, wC]) <;> exact rfl); (exact (Enters.of Try.func55 rfl rfl)); (exact hho); (focus (simp only [push_cast, seval] <;> first | trivial | assumption | (refine ⟨?_, ?_⟩ <;> assumption) | (simp; done))); (try dsimp only [putA, optG]))
    repeat (first | apply Wp.seq | apply Wp.block | (apply Run.next; (simp only [push_cast, seval] <;> (try simp (disch := omega) only [wI, wU, wC]) <;> exact rfl); (focus ((try simp only [push_cast, seval]) <;> exact sT))) | ((first | apply Run.nil | apply Wp.skip); dsimp only [sQ, tQ, bQ]) | (apply Wp.run; (dsimp only [List.map] <;> exact rfl); exact rfl) | (apply Wp.exit; dsimp only [sQ, tQ, bQ]; simp only [reduceIte]) | (apply Run.gtrue; (simp only [push_cast, seval] <;> (try simp (disch := omega) only [wI, wU, wC]) <;> exact rfl); (simp only [push_cast, seval] <;> (try simp (disch := omega) only [wI, wU, wC]) <;> exact rfl)) | (apply Run.gfalse (.bool false); (simp only [push_cast, seval] <;> (try simp (disch := omega) only [wI, wU, wC]) <;> exact rfl); dsimp only [S.put, optG]) | (apply Wp.condT; (simp only [push_cast, seval] <;> (try simp (disch := omega) only [wI, wU, wC]) <;> exact rfl)) | (apply Wp.condF; (simp only [push_cast, seval] <;> (try simp (disch := omega) only [wI, wU, wC]) <;> exact rfl)))
    (apply Wp.cond; (simp only [push_cast, seval] <;> (try simp (disch := omega) only [wI, wU, wC]) <;> exact rfl))
    · intro h2
      simp only [decide_eq_true_eq] at h2
      repeat (first | apply Wp.seq | apply Wp.block | (apply Run.next; (simp only [push_cast, seval] <;> (try simp (disch := omega) only [wI, wU, wC]) <;> exact rfl); (focus ((try simp only [push_cast, seval]) <;> exact sT))) | ((first | apply Run.nil | apply Wp.skip); dsimp only [sQ, tQ, bQ]) | (apply Wp.run; (dsimp only [List.map] <;> exact rfl); exact rfl) | (apply Wp.exit; dsimp only [sQ, tQ, bQ]; simp only [reduceIte]))
      (apply Wp.ret; (try dsimp only [sQ, tQ, bQ]); apply leave0; exact rfl; (simp only [push_cast, seval] <;> (try simp (disch := omega) only [wI, wU, wC]) <;> exact rfl); all_goals (try simp only [push_cast, seval]); (try rfl))
      rw [if_neg (by omega)]
    · intro h2
      simp only [decide_eq_false_iff_not, Int.not_lt] at h2
      rw [if_pos (by omega)]
      repeat (first | apply Wp.seq | apply Wp.block | (apply Run.next; (simp only [push_cast, seval] <;> (try simp (disch := omega) only [wI, wU, wC]) <;> exact rfl); (focus ((try simp only [push_cast, seval]) <;> exact sT))) | ((first | apply Run.nil | apply Wp.skip); dsimp only [sQ, tQ, bQ]) | (apply Wp.run; (dsimp only [List.map] <;> exact rfl); exact rfl) | (apply Wp.exit; dsimp only [sQ, tQ, bQ]; simp only [reduceIte]))
      refine Wp.loop (fun (k : Nat) => { t := [(1, .lst 6 (ls.map bkA)), (2, .optr 0 0 0 0), (6, .int k)], m := [⟨0, .row 3 [houA cs ms cake]⟩], n := 60 }) (fun k => k ≤ ls.length ∧ ∀ j, j < k → okB cs cake ls j = true) (fun k => ls.length - k) 0 ?_ ?_ ?_
      · (refine Le.of ?_ ?_ rfl rfl <;> (try simp only [push_cast, seval]) <;> (try (with_reducible rfl)))
        all_goals rfl
      · simp
      · rintro k ⟨hk1, hk2⟩
        repeat (first | apply Wp.seq | apply Wp.block | (apply Run.next; (simp only [push_cast, seval] <;> (try simp (disch := omega) only [wI, wU, wC]) <;> exact rfl); (focus ((try simp only [push_cast, seval]) <;> exact sT))) | ((first | apply Run.nil | apply Wp.skip); dsimp only [sQ, tQ, bQ]) | (apply Wp.run; (dsimp only [List.map] <;> exact rfl); exact rfl) | (apply Wp.exit; dsimp only [sQ, tQ, bQ]; simp only [reduceIte]))
        (apply Wp.cond; (simp only [push_cast, seval] <;> (try simp (disch := omega) only [wI, wU, wC]) <;> exact rfl))
        · intro hc1
          simp only [decide_eq_true_eq, Int.ofNat_lt] at hc1
          have hbo := isBk_pure hv (ls.getD k bk0)
          have hok := okB_r cs cake ls k
          generalize hx : ls.getD k bk0 = x at hbo hok
          generalize hy : ls.getD x.rival.toNat bk0 = y at hok
          repeat (first | apply Wp.seq | apply Wp.block | (apply Run.next; (simp only [push_cast, seval, hx, hy] <;> (try simp (disch := omega) only [wI, wU, wC]) <;> exact rfl); (focus ((try simp only [push_cast, seval, hx, hy]) <;> exact sT))) | ((first | apply Run.nil | apply Wp.skip); dsimp only [sQ, tQ, bQ]) | (apply Wp.run; (dsimp only [List.map] <;> exact rfl); exact rfl) | (apply Wp.exit; dsimp only [sQ, tQ, bQ]; simp only [reduceIte]))
          (apply Wp.runD 33 mixed; (dsimp only [List.map] <;> exact rfl); exact rfl; kernel_rfl; (dsimp only [List.take] <;> exact rfl); (dsimp only [List.drop] <;> exact rfl); (((repeat (apply Abn.next; (simp only [push_cast, seval, hx, hy] <;> (try simp (disch := omega) only [wI, wU, wC]) <;> exact rfl); (focus ((try simp only [push_cast, seval, hx, hy]) <;> exact sT)))); (apply Abn.pureP; (simp only [push_cast, seval, hx, hy] <;> (try simp (disch := omega) only [wI, wU, wC]) <;> exact rfl); (exact (Enters.of Try.func53 rfl rfl)); (exact hbo); (focus (simp only [push_cast, seval, hx, hy] <;> first | trivial | assumption | (refine ⟨?_, ?_⟩ <;> assumption) | (simp; done))); (try dsimp only [putA, optG])); (repeat (apply Abn.next; (simp only [push_cast, seval, hx, hy] <;> (try simp (disch := omega) only [wI, wU, wC]) <;> exact rfl); (focus ((try simp only [push_cast, seval, hx, hy]) <;> exact sT)))); (apply Abn.pureP; (simp only [push_cast, seval, hx, hy] <;> (try simp (disch := omega) only [wI, wU, wC]) <;> exact rfl); (exact (Enters.of Try.func56 rfl rfl)); (exact rwithin_pure _ _ _); (focus (simp only [push_cast, seval, hx, hy] <;> first | trivial | assumption | (refine ⟨?_, ?_⟩ <;> assumption) | (simp; done))); (try dsimp only [putA, optG])); (repeat (apply Abn.next; (simp only [push_cast, seval, hx, hy] <;> (try simp (disch := omega) only [wI, wU, wC]) <;> exact rfl); (focus ((try simp only [push_cast, seval, hx, hy]) <;> exact sT)))); (apply Abn.next; (simp only [push_cast, seval, hx, hy] <;> (try simp (disch := omega) only [wI, wU, wC]) <;> exact rfl); (focus ((try simp only [push_cast, seval, hx, hy]); intro hg; have hg' := hg; simp only [Bool.or_eq_false_iff, Bool.and_eq_true, Bool.not_eq_false', wi_iff, decide_eq_true_eq] at hg'; first | omega | exact ⟨hg, by omega⟩ | (refine ⟨?_, ?_⟩ <;> omega)))); (repeat (apply Abn.next; (simp only [push_cast, seval, hx, hy] <;> (try simp (disch := omega) only [wI, wU, wC]) <;> exact rfl); (focus ((try simp only [push_cast, seval, hx, hy]) <;> exact sT))))); exact Abn.nil))
          repeat (first | apply Wp.seq | apply Wp.block | (apply Run.next; (simp only [push_cast, seval, hx, hy] <;> (try simp (disch := omega) only [wI, wU, wC]) <;> exact rfl); (focus ((try simp only [push_cast, seval, hx, hy]) <;> exact sT))) | ((first | apply Run.nil | apply Wp.skip); dsimp only [sQ, tQ, bQ]) | (apply Wp.run; (dsimp only [List.map] <;> exact rfl); exact rfl) | (apply Wp.exit; dsimp only [sQ, tQ, bQ]; simp only [reduceIte]))
          (apply Wp.cond; (simp only [push_cast, seval, hx, hy] <;> (try simp (disch := omega) only [wI, wU, wC]) <;> exact rfl))
          · intro h4
            have h5 : okB cs cake ls k = false := by rw [hok, h4]; rfl
            repeat (first | apply Wp.seq | apply Wp.block | (apply Run.next; (simp only [push_cast, seval, hx, hy] <;> (try simp (disch := omega) only [wI, wU, wC]) <;> exact rfl); (focus ((try simp only [push_cast, seval, hx, hy]) <;> exact sT))) | ((first | apply Run.nil | apply Wp.skip); dsimp only [sQ, tQ, bQ]) | (apply Wp.run; (dsimp only [List.map] <;> exact rfl); exact rfl) | (apply Wp.exit; dsimp only [sQ, tQ, bQ]; simp only [reduceIte]))
            (apply Wp.ret; (try dsimp only [sQ, tQ, bQ]); apply leave0; exact rfl; (simp only [push_cast, seval, hx, hy] <;> (try simp (disch := omega) only [wI, wU, wC]) <;> exact rfl); all_goals (try simp only [push_cast, seval, hx, hy]); (try rfl))
            rw [if_neg (by rw [range_no hc1 h5]; simp)]
          · intro h4
            have h5 : okB cs cake ls k = true := by rw [hok, h4]; rfl
            repeat (first | apply Wp.seq | apply Wp.block | (apply Run.next; (simp only [push_cast, seval, hx, hy] <;> (try simp (disch := omega) only [wI, wU, wC]) <;> exact rfl); (focus ((try simp only [push_cast, seval, hx, hy]) <;> exact sT))) | ((first | apply Run.nil | apply Wp.skip); dsimp only [sQ, tQ, bQ]) | (apply Wp.run; (dsimp only [List.map] <;> exact rfl); exact rfl) | (apply Wp.exit; dsimp only [sQ, tQ, bQ]; simp only [reduceIte]))
            refine ⟨k + 1, ?_, ⟨by omega, fun j hj => ?_⟩, by omega⟩
            · (refine Le.of ?_ ?_ rfl rfl <;> (try simp only [push_cast, seval, hx, hy]) <;> (try (with_reducible rfl)))
            · by_cases hjk : j = k
              · subst hjk; exact h5
              · exact hk2 j (by omega)
        · intro hc1
          simp only [decide_eq_false_iff_not, Int.ofNat_lt] at hc1
          obtain rfl : k = ls.length := by omega
          repeat (first | apply Wp.seq | apply Wp.block | (apply Run.next; (simp only [push_cast, seval] <;> (try simp (disch := omega) only [wI, wU, wC]) <;> exact rfl); (focus ((try simp only [push_cast, seval]) <;> exact sT))) | ((first | apply Run.nil | apply Wp.skip); dsimp only [sQ, tQ, bQ]) | (apply Wp.run; (dsimp only [List.map] <;> exact rfl); exact rfl) | (apply Wp.exit; dsimp only [sQ, tQ, bQ]; simp only [reduceIte]))
          (apply Wp.ret; (try dsimp only [sQ, tQ, bQ]); apply leave0; exact rfl; (simp only [push_cast, seval] <;> (try simp (disch := omega) only [wI, wU, wC]) <;> exact rfl); all_goals (try simp only [push_cast, seval]); (try rfl))
          rw [if_pos (range_all hk2)]
end Go.Proofs.Try
set_option maxHeartbeats 8000000
set_option maxRecDepth 20000
namespace Go.Proofs.Try
open Go.Vg

/-! bookings are added -/
def edE (cs : List Ch) (ms : List Ma) (cake : Int) (ls : List Bk) : Int := if fitB cs cake ls = true then (if psB cs ms ls = true then 0 else 112) else 111
end Go.Proofs.Try
set_option maxHeartbeats 8000000
namespace Go.Proofs.Try
open Go.Vg
theorem sameInts_pure (a b : List Int) : Pure Try.prog 32 [.ints a, .ints b] (.bool (decide (a = b))) := by
  (refine Spec.of_body Try.func32 rfl (by rw [Try.ntmps32]; simp) 0 (by simp) ?_; rw [Try.results32, Try.ntmps32]; simp only [entry, zipArgs, Nat.reduceAdd])
  apply Wp.len 0; (simp only [push_cast, seval] <;> (try simp (disch := omega) only [wI, wU, wC]) <;> exact rfl)
  intro hlen
  simp only [List.length_map] at hlen
  repeat (first | apply Wp.seq | apply Wp.block | (apply Run.next; (simp only [push_cast, seval] <;> (try simp (disch := omega) only [wI, wU, wC]) <;> exact rfl); (focus ((try simp only [push_cast, seval]) <;> exact sT))) | ((first | apply Run.nil | apply Wp.skip); dsimp only [sQ, tQ, bQ]) | (apply Wp.run; (dsimp only [List.map] <;> exact rfl); exact rfl) | (apply Wp.exit; dsimp only [sQ, tQ, bQ]; simp only [reduceIte]))
  (apply Wp.cond; (simp only [push_cast, seval] <;> (try simp (disch := omega) only [wI, wU, wC]) <;> exact rfl))
  · (intro hc; try simp only [decide_eq_true_eq, decide_eq_false_iff_not, Bool.and_eq_true, Bool.or_eq_true, Bool.not_eq_true, Bool.not_eq_false, Bool.not_eq_true', Bool.not_eq_false', Bool.and_eq_false_iff, Bool.or_eq_false_iff, Int.not_lt, Int.not_le, Int.ofNat_lt, Int.ofNat_le] at hc)
    repeat (first | apply Wp.seq | apply Wp.block | (apply Run.next; (simp only [push_cast, seval] <;> (try simp (disch := omega) only [wI, wU, wC]) <;> exact rfl); (focus ((try simp only [push_cast, seval]) <;> exact sT))) | ((first | apply Run.nil | apply Wp.skip); dsimp only [sQ, tQ, bQ]) | (apply Wp.run; (dsimp only [List.map] <;> exact rfl); exact rfl) | (apply Wp.exit; dsimp only [sQ, tQ, bQ]; simp only [reduceIte]))
    (apply Wp.ret; (try dsimp only [sQ, tQ, bQ]); apply leave0; exact rfl; (simp only [push_cast, seval] <;> (try simp (disch := omega) only [wI, wU, wC]) <;> exact rfl); all_goals (try simp only [push_cast, seval]); (try rfl))
    rw [decide_eq_false]
    intro h
    rw [h] at hc
    exact hc rfl
  · (intro hc; try simp only [decide_eq_true_eq, decide_eq_false_iff_not, Bool.and_eq_true, Bool.or_eq_true, Bool.not_eq_true, Bool.not_eq_false, Bool.not_eq_true', Bool.not_eq_false', Bool.and_eq_false_iff, Bool.or_eq_false_iff, Int.not_lt, Int.not_le, Int.ofNat_lt, Int.ofNat_le] at hc)
    repeat (first | apply Wp.seq | apply Wp.block | (apply Run.next; (simp only [push_cast, seval] <;> (try simp (disch := omega) only [wI, wU, wC]) <;> exact rfl); (focus ((try simp only [push_cast, seval]) <;> exact sT))) | ((first | apply Run.nil | apply Wp.skip); dsimp only [sQ, tQ, bQ]) | (apply Wp.run; (dsimp only [List.map] <;> exact rfl); exact rfl) | (apply Wp.exit; dsimp only [sQ, tQ, bQ]; simp only [reduceIte]))
    refine Wp.loop (fun k : Nat => { t := [(0, .ints a), (1, .ints b), (5, .int k)], m := [], n := 26 }) (fun k => k ≤ a.length ∧ ∀ j, j < k → a.getD j 0 = b.getD j 0) (fun k => a.length - k) 0 ?_ ?_ ?_
    · (refine Le.of ?_ ?_ rfl rfl <;> (try simp only [push_cast, seval]) <;> (try (with_reducible rfl)))
    · simp
    · rintro k ⟨hk1, hk2⟩
      repeat (first | apply Wp.seq | apply Wp.block | (apply Run.next; (simp only [push_cast, seval] <;> (try simp (disch := omega) only [wI, wU, wC]) <;> exact rfl); (focus ((try simp only [push_cast, seval]) <;> exact sT))) | ((first | apply Run.nil | apply Wp.skip); dsimp only [sQ, tQ, bQ]) | (apply Wp.run; (dsimp only [List.map] <;> exact rfl); exact rfl) | (apply Wp.exit; dsimp only [sQ, tQ, bQ]; simp only [reduceIte]))
      (apply Wp.cond; (simp only [push_cast, seval] <;> (try simp (disch := omega) only [wI, wU, wC]) <;> exact rfl))
      · (intro hc; try simp only [decide_eq_true_eq, decide_eq_false_iff_not, Bool.and_eq_true, Bool.or_eq_true, Bool.not_eq_true, Bool.not_eq_false, Bool.not_eq_true', Bool.not_eq_false', Bool.and_eq_false_iff, Bool.or_eq_false_iff, Int.not_lt, Int.not_le, Int.ofNat_lt, Int.ofNat_le] at hc)
        repeat (first | apply Wp.seq | apply Wp.block | (apply Run.next; (simp only [push_cast, seval] <;> (try simp (disch := omega) only [wI, wU, wC]) <;> exact rfl); (focus ((try simp only [push_cast, seval]) <;> exact sT))) | ((first | apply Run.nil | apply Wp.skip); dsimp only [sQ, tQ, bQ]) | (apply Wp.run; (dsimp only [List.map] <;> exact rfl); exact rfl) | (apply Wp.exit; dsimp only [sQ, tQ, bQ]; simp only [reduceIte]))
        (apply Wp.runD 9 mixed; (dsimp only [List.map] <;> exact rfl); exact rfl; kernel_rfl; (dsimp only [List.take] <;> exact rfl); (dsimp only [List.drop] <;> exact rfl); (((repeat (apply Abn.next; (simp only [push_cast, seval] <;> (try simp (disch := omega) only [wI, wU, wC]) <;> exact rfl); (focus ((try simp only [push_cast, seval]) <;> exact sT))))); exact Abn.nil))
        repeat (first | apply Wp.seq | apply Wp.block | (apply Run.next; (simp only [push_cast, seval] <;> (try simp (disch := omega) only [wI, wU, wC]) <;> exact rfl); (focus ((try simp only [push_cast, seval]) <;> exact sT))) | ((first | apply Run.nil | apply Wp.skip); dsimp only [sQ, tQ, bQ]) | (apply Wp.run; (dsimp only [List.map] <;> exact rfl); exact rfl) | (apply Wp.exit; dsimp only [sQ, tQ, bQ]; simp only [reduceIte]))
        (apply Wp.cond; (simp only [push_cast, seval] <;> (try simp (disch := omega) only [wI, wU, wC]) <;> exact rfl))
        · intro h2
          repeat (first | apply Wp.seq | apply Wp.block | (apply Run.next; (simp only [push_cast, seval] <;> (try simp (disch := omega) only [wI, wU, wC]) <;> exact rfl); (focus ((try simp only [push_cast, seval]) <;> exact sT))) | ((first | apply Run.nil | apply Wp.skip); dsimp only [sQ, tQ, bQ]) | (apply Wp.run; (dsimp only [List.map] <;> exact rfl); exact rfl) | (apply Wp.exit; dsimp only [sQ, tQ, bQ]; simp only [reduceIte]))
          (apply Wp.ret; (try dsimp only [sQ, tQ, bQ]); apply leave0; exact rfl; (simp only [push_cast, seval] <;> (try simp (disch := omega) only [wI, wU, wC]) <;> exact rfl); all_goals (try simp only [push_cast, seval]); (try rfl))
          rw [decide_eq_false]
          intro h
          rw [h] at h2
          simp at h2
        · intro h2
          repeat (first | apply Wp.seq | apply Wp.block | (apply Run.next; (simp only [push_cast, seval] <;> (try simp (disch := omega) only [wI, wU, wC]) <;> exact rfl); (focus ((try simp only [push_cast, seval]) <;> exact sT))) | ((first | apply Run.nil | apply Wp.skip); dsimp only [sQ, tQ, bQ]) | (apply Wp.run; (dsimp only [List.map] <;> exact rfl); exact rfl) | (apply Wp.exit; dsimp only [sQ, tQ, bQ]; simp only [reduceIte]))
          simp only [decide_eq_true_eq, Bool.not_eq_false', decide_eq_false_iff_not] at h2
          refine ⟨k + 1, ?_, ⟨by omega, fun j hj => ?_⟩, by omega⟩
          · (refine Le.of ?_ ?_ rfl rfl <;> (try simp only [push_cast, seval]) <;> (try (with_reducible rfl)))
          · by_cases hjk : j = k
            · subst hjk; exact h2
            · exact hk2 j (by omega)
      · (intro hc; try simp only [decide_eq_true_eq, decide_eq_false_iff_not, Bool.and_eq_true, Bool.or_eq_true, Bool.not_eq_true, Bool.not_eq_false, Bool.not_eq_true', Bool.not_eq_false', Bool.and_eq_false_iff, Bool.or_eq_false_iff, Int.not_lt, Int.not_le, Int.ofNat_lt, Int.ofNat_le] at hc)
        repeat (first | apply Wp.seq | apply Wp.block | (apply Run.next; (simp only [push_cast, seval] <;> (try simp (disch := omega) only [wI, wU, wC]) <;> exact rfl); (focus ((try simp only [push_cast, seval]) <;> exact sT))) | ((first | apply Run.nil | apply Wp.skip); dsimp only [sQ, tQ, bQ]) | (apply Wp.run; (dsimp only [List.map] <;> exact rfl); exact rfl) | (apply Wp.exit; dsimp only [sQ, tQ, bQ]; simp only [reduceIte]))
        (apply Wp.ret; (try dsimp only [sQ, tQ, bQ]); apply leave0; exact rfl; (simp only [push_cast, seval] <;> (try simp (disch := omega) only [wI, wU, wC]) <;> exact rfl); all_goals (try simp only [push_cast, seval]); (try rfl))
        rw [decide_eq_true]
        apply List.ext_getElem
        · omega
        · intro j h3 h4
          have := hk2 j (by omega)
          simpa [h3, h4] using this
theorem sameInts_same (l : List Int) : Pure Try.prog 32 [.ints l, .ints l] (.bool true) := by
  have h := sameInts_pure l l
  rwa [decide_eq_true (p := l = l) rfl] at h
end Go.Proofs.Try
set_option maxHeartbeats 8000000
namespace Go.Proofs.Try
open Go.Vg

/-! the chapter's examples -/
abbrev exC : List Ch := [⟨2, 6, 60, 20⟩, ⟨3, 8, 45, 15⟩]
abbrev exM : List Ma := [⟨1, 600, 900⟩, ⟨3, 600, 1200⟩]
abbrev exL : List Bk := [⟨0, 600, 4, 0, true, -1⟩, ⟨1, 630, 5, 1, false, -1⟩]
abbrev exb (n : Int) : Bk := ⟨0, n, 2, 1, false, -1⟩
theorem named : Named Try.prog 125 := namedB_ok (by kernel_rfl)
theorem example_pure : Pure Try.prog 49 [] (.tup [houA exC exM 30, .lst 6 (exL.map bkA)]) := xFz_pure named mixed (by kernel_rfl)
theorem exStaff_pure : Pure Try.prog 30 [houA exC exM 30, .lst 6 (exL.map bkA)] (.tup [.ints [0, 1], .int 0]) := xFz_pure named mixed (by kernel_rfl)
theorem exAdd_pure : Pure Try.prog 19 [houA exC exM 30, .lst 6 (exL.map bkA), bkA (exb 710)] (.tup [.lst 6 ((exL ++ [exb 710]).map bkA), .int 0]) := xFz_pure named mixed (by kernel_rfl)
theorem exBegin : bgE exC exM 30 exL 1 = 0 := by kernel_rfl
theorem exLow : (List.range 110).all (fun k => bkB exC 30 (exb (600 + (k : Int))) && !fitB exC 30 (exL ++ [exb (600 + (k : Int))])) = true := by kernel_rfl
theorem exLow_pure (k : Nat) (h : k < 110) : Pure Try.prog 19 [houA exC exM 30, .lst 6 (exL.map bkA), bkA (exb (600 + (k : Int)))] (.tup [.emp, .int 111]) := by
  have := List.all_eq_true.1 exLow k (List.mem_range.2 h)
  simp only [Bool.and_eq_true, Bool.not_eq_true'] at this
  exact add_nofit exBegin _ rfl this.1 this.2
end Go.Proofs.Try
