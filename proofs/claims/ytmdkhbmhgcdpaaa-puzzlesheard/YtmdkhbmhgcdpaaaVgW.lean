/- The abstract machine, part W: what a row's bound on each slice says of a law's arguments. -/
import Derived.Test.YtmdkhbmhgcdpaaaVgP
import Derived.SizedLaws
set_option linter.all false
set_option linter.unusedVariables false
namespace Go.Vg
open Go.RowKit Go.ChangeShapes

/-- each argument that is a slice fits into the reach of a machine -/
def Sized (P : Program) (ts : List TypeId) (xs : List AV) : Prop :=
  ∀ (j : Nat) (t e : TypeId) (sz : Nat) (l : List AV), ts[j]? = some t → P.underlying t = some (.slice e) → xs[j]? = some (.lst sz l) → l.length * P.bytesOf e ≤ reachBytes

theorem sized_data {P : Program} {H : Type} {enc : TypeId × Value → H} {w : World} {base : Nat} {spare : Nat → Bool} {held : Bool} : ∀ {ts : List TypeId} {xs : List AV} {vs : List Value} {ds : List (DataW H)} {ps : List MemPlace},
    Rvals XN w [] xs vs → DataW.TrodAll enc P w base spare held ts vs ds ps → ∀ (j : Nat) (t e : TypeId) (sz : Nat) (l : List AV), ts[j]? = some t → P.underlying t = some (.slice e) → xs[j]? = some (.lst sz l) →
      l = [] ∨ ∃ elems rest, ds[j]? = some (.slice elems rest) ∧ elems.length = l.length
  | [], xs, vs, ds, ps, hR, h, j, t, e, sz, l, ht, _, _ => by simp at ht
  | t0 :: ts, xs, vs, ds, ps, hR, h, j, t, e, sz, l, ht, hu, hx => by
    obtain ⟨v, vs', d, ds', p, q, rfl, rfl, rfl, ⟨fuel, hd⟩, hr⟩ := trodAll_cons h
    cases xs with
    | nil => simp at hx
    | cons x xs =>
      obtain ⟨v0, vs0, e0, q1, q2⟩ := hR
      obtain ⟨rfl, rfl⟩ := List.cons.inj e0
      cases j with
      | succ j =>
        simp only [List.getElem?_cons_succ] at ht hx ⊢
        exact sized_data q2 hr j t e sz l ht hu hx
      | zero =>
        simp only [List.getElem?_cons_zero, Option.some.injEq] at ht hx ⊢
        subst ht
        subst hx
        obtain ⟨A, c, rfl, _, _, _⟩ := q1
        rcases Deep.open_slice hu hd with ⟨h1, h2⟩ | ⟨a, len, cap, m, n, D, Pl, h1, _, _, _, _, h2, _⟩
        · left
          simp [Value.cells] at h1
          exact h1.2.1
        · right
          simp [Value.cells] at h1
          refine ⟨_, _, (congrArg Prod.fst h2), ?_⟩
          simp
          exact h1.2.1.symm

theorem law_contract2 {P : Program} {f : FuncId} {fn : Func} {s : ChangeSpec} {Q : List AV → Prop} {tb : TypeId} (hl : laidOutB P = true) (hts : ∀ t ∈ fn.params.toList, P.readableRec t = true ∧ t < P.types.size)
    (hv0 : s.vars = []) (hs : ∀ (H : Type) (ds : List (DataW H)), ds.length = fn.params.toList.length → s.fn H ds = { results := [.lit (.bool true)], args := ds }) (hrt : fn.resultTypes = #[tb]) (htb : P.underlying tb = some .bool)
    (hO : OpensAll P fn.params.toList Q) (hp : ∀ xs, Q xs → Sized P fn.params.toList xs → Pure P f xs (.bool true))
    (H : Type) (enc : TypeId × Value → H) (W : World) (base : Nat) (args : Array Value) (ds gs : List (DataW H)) (before : List MemPlace)
    (hval : ∀ (j : Nat) t v, fn.params[j]? = some t → args[j]? = some v → Value.okWide P W .any base t v)
    (hW : DataW.Whole enc P fn.params.toList s.vars false W args.toList ds gs before)
    (us : List TypeId) (hz : (DataW.weightsEach P (fn.params.toList ++ us) (ds ++ gs)).all (· ≤ reachBytes) = true) :
    Calls P f args W fun e W' => ∃ v, e = .returned v ∧ s.post enc P fn false true false false W args v W' := by
  have hW0 := hW
  obtain ⟨p, q, hA, hV, hbef, hfz, hnd⟩ := hW
  obtain ⟨xs, hQ, hR⟩ := opensAll_run (r := .any) (b0 := base) hO hA (fun j t v ht hv => hval j t v (by simpa using ht) (by simpa using hv))
  have hsz : Sized P fn.params.toList xs := by
    intro j t e sz l ht hu hx
    rcases sized_data hR hA j t e sz l ht hu hx with h | ⟨elems, rest, h1, h2⟩
    · subst h; simp
    · have hd : (ds ++ gs)[j]? = some (.slice elems rest) := by
        rw [List.getElem?_append_left (List.getElem?_eq_some_iff.1 h1).1]; exact h1
      have ht' : (fn.params.toList ++ us)[j]? = some t := by
        rw [List.getElem?_append_left (List.getElem?_eq_some_iff.1 ht).1]; exact ht
      have := sized_slice hz ht' hd hu
      rw [← h2]
      exact Nat.le_trans (Nat.mul_le_mul_right _ (Nat.le_add_right _ _)) this
  exact law_contract_one hl hts hv0 hs hrt htb xs hR (hp xs hQ hsz) H enc base ds gs before hval hW0
end Go.Vg
