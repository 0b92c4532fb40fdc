/- The abstract machine, part P: from the readings of a law's arguments to abstract values; from a contract 'Pure' to a law's contract. -/
import Derived.Test.YtljchlkmalidnaaVgZ
import Derived.Carry
import Derived.OpenShut
import Derived.Deep.Slices
set_option linter.all false
set_option linter.unusedVariables false
namespace Go.Vg
open Go.RowKit Go.ChangeShapes

abbrev XN : Nat → Prop := fun _ => False

def AV.simple : AV → Bool
  | .val _ | .lst _ _ => true
  | _ => false

theorem simple_at {w : World} {ρ : Rho} {x : AV} (h : x.simple = true) (sz b o : Nat) : Re XN w ρ x sz b o = OneAt w (fun v => R XN w ρ x v) sz b o := by
  cases x <;> simp_all [AV.simple] <;> rfl

/-- whatever reads as a value of type t is related to abstract cells of which Q holds -/
def Opens (P : Program) (t : TypeId) (Q : List AV → Prop) : Prop :=
  ∀ (H : Type) (enc : TypeId × Value → H) (w : World) (base : Nat) (spare : Nat → Bool) (held : Bool) (fuel : Nat) (cs : List Value) (x : DataW H × List MemPlace),
    DataW.trod enc P w base spare held fuel t cs = some x →
    ∃ xs, Q xs ∧ Rvals XN w [] xs cs ∧ xs.length = P.cellsOf t ∧ (∀ y ∈ xs, y.simple = true) ∧ ∀ v ∈ cs, v.oneCell' = true

theorem Opens.mono {P : Program} {t : TypeId} {Q Q' : List AV → Prop} (h : Opens P t Q) (hq : ∀ xs, Q xs → Q' xs) : Opens P t Q' :=
  fun H enc w base spare held fuel cs x hx => let ⟨xs, h1, h2⟩ := h H enc w base spare held fuel cs x hx; ⟨xs, hq xs h1, h2⟩

def i64 (n : Int) : Prop := -9223372036854775808 ≤ n ∧ n ≤ 9223372036854775807

theorem Opens.int {P : Program} {t : TypeId} (ht : P.underlying t = some (.int .i64)) (hc : P.cellsOf t = 1) : Opens P t fun xs => ∃ n, i64 n ∧ xs = [.int n] := by
  intro H enc w base spare held fuel cs x h
  obtain ⟨n, rfl, rfl, hw⟩ := DataW.trod_int ht h
  exact ⟨[.int n], ⟨n, bounds_i64 hw, rfl⟩, ⟨_, [], rfl, rfl, rfl⟩, by rw [hc]; rfl, by simp [AV.simple], by simp [Value.oneCell']⟩

theorem Opens.bool {P : Program} {t : TypeId} (ht : P.underlying t = some .bool) (hc : P.cellsOf t = 1) : Opens P t fun xs => ∃ b, xs = [.bool b] := by
  intro H enc w base spare held fuel cs x h
  obtain ⟨b, rfl, rfl⟩ := DataW.trod_bool ht h
  exact ⟨[.bool b], ⟨b, rfl⟩, ⟨_, [], rfl, rfl, rfl⟩, by rw [hc]; rfl, by simp [AV.simple], by simp [Value.oneCell']⟩

theorem Opens.str {P : Program} {t : TypeId} (ht : P.underlying t = some .string) (hc : P.cellsOf t = 1) : Opens P t fun xs => ∃ s : ByteArray, s.size ≤ maxLen ∧ xs = [.str s] := by
  intro H enc w base spare held fuel cs x h
  obtain ⟨s, rfl, rfl, hs⟩ := DataW.trod_string ht h
  exact ⟨[.str s], ⟨s, hs, rfl⟩, ⟨_, [], rfl, rfl, rfl⟩, by rw [hc]; rfl, by simp [AV.simple], by simp [Value.oneCell']⟩

def contig (P : Program) : Nat → List Field → Nat → Bool
  | o, [], n => o == n
  | o, f :: fs, n => f.offset == o && contig P (o + P.cellsOf f.type) fs n

inductive OpensFs (P : Program) : List Field → (List AV → Prop) → Prop
  | nil : OpensFs P [] fun xs => xs = []
  | cons {f : Field} {fs : List Field} {Q Q' : List AV → Prop} : Opens P f.type Q → OpensFs P fs Q' → OpensFs P (f :: fs) fun xs => ∃ a b, xs = a ++ b ∧ Q a ∧ Q' b

theorem opensFs_run {P : Program} {H : Type} {enc : TypeId × Value → H} {w : World} {base : Nat} {spare : Nat → Bool} {held : Bool} {fuel : Nat} {cs : List Value} :
    ∀ {fs : List Field} {Q : List AV → Prop}, OpensFs P fs Q → ∀ o, contig P o fs cs.length = true → (∀ f ∈ fs, ∃ x, DataW.trod enc P w base spare held fuel f.type ((cs.drop f.offset).take (P.cellsOf f.type)) = some x) →
    ∃ xs, Q xs ∧ Rvals XN w [] xs (cs.drop o) ∧ o + xs.length = cs.length ∧ (∀ y ∈ xs, y.simple = true) ∧ ∀ v ∈ cs.drop o, v.oneCell' = true
  | [], _, .nil, o, hc, _ => by
    simp only [contig, beq_iff_eq] at hc
    subst hc
    exact ⟨[], rfl, by simp [Rvals], by simp, by simp, by simp⟩
  | f :: fs, _, .cons h1 h2, o, hc, ht => by
    simp only [contig, Bool.and_eq_true, beq_iff_eq] at hc
    obtain ⟨x, hx⟩ := ht f (by simp)
    rw [hc.1] at hx
    obtain ⟨a, a1, a2, a3, a4, a5⟩ := h1 H enc w base spare held fuel _ x hx
    obtain ⟨b, b1, b2, b3, b4, b5⟩ := opensFs_run h2 (o + P.cellsOf f.type) hc.2 (fun g hg => ht g (by simp [hg]))
    have e : cs.drop o = (cs.drop o).take (P.cellsOf f.type) ++ cs.drop (o + P.cellsOf f.type) := by
      rw [← List.drop_drop, List.take_append_drop]
    refine ⟨a ++ b, ⟨a, b, rfl, a1, b1⟩, ?_, by simp; omega, ?_, ?_⟩
    · rw [e]; exact Rvals.append a2 b2
    · intro y hy
      rcases List.mem_append.1 hy with h | h
      · exact a4 y h
      · exact b4 y h
    · intro v hv
      rw [e] at hv
      rcases List.mem_append.1 hv with h | h
      · exact a5 v h
      · exact b5 v h

theorem Opens.struct {P : Program} {t : TypeId} {fs : Array Field} {Q : List AV → Prop} (ht : P.underlying t = some (.struct fs)) (hc : contig P 0 fs.toList (P.cellsOf t) = true) (hF : OpensFs P fs.toList Q) : Opens P t Q := by
  intro H enc w base spare held fuel cs x h
  obtain ⟨xs, n, rfl, rfl, hl, hlen, hf⟩ := DataW.trod_struct ht h
  obtain ⟨ys, h1, h2, h3, h4, h5⟩ := opensFs_run (enc := enc) (w := w) (base := base) (spare := spare) (held := held) (fuel := n) (cs := cs) hF 0 (by rw [hl]; exact hc) (fun f hf' => by
    obtain ⟨i, hi, e⟩ := List.getElem_of_mem hf'
    have hi' : i < fs.size := by simpa using hi
    have := hf i f (by rw [Array.getElem?_eq_getElem hi']; simpa using e)
    rw [this, List.getElem?_eq_getElem (by omega)]
    exact ⟨_, rfl⟩)
  exact ⟨ys, h1, by simpa using h2, by omega, h4, by simpa using h5⟩

def elemAV (P : Program) (e : TypeId) (xs : List AV) : AV :=
  match agg? P e with
  | some true => .agg xs
  | _ => xs.headD .any

theorem Rcells_of0 {w : World} {b : Nat} : ∀ {xs : List AV} {cs : List Value} {o : Nat}, Rvals XN w [] xs cs → (∀ i v, cs[i]? = some v → w.cell? ⟨b, o + i, none⟩ = some v ∧ v.oneCell' = true) → Rcells XN w [] xs b o
  | [], _, _, _, _ => trivial
  | x :: xs, _, o, ⟨v, vs, e, h1, h2⟩, h => by
    subst e
    refine ⟨⟨v, (h 0 v rfl).1, (h 0 v rfl).2, h1⟩, Rcells_of0 h2 fun i u hu => ?_⟩
    have := h (i + 1) u (by simpa using hu)
    rw [show o + 1 + i = o + (i + 1) by omega]
    exact this

theorem mapM_get {α β : Type} {f : α → Option β} : ∀ {l : List α} {r : List β}, l.mapM f = some r → ∀ (i : Nat) (y : β), r[i]? = some y → ∃ x, l[i]? = some x ∧ f x = some y
  | [], r, h, i, y, hy => by simp at h; subst h; simp at hy
  | a :: l, r, h, i, y, hy => by
    rw [List.mapM_cons] at h
    cases ha : f a with
    | none => rw [ha] at h; simp at h
    | some z =>
      rw [ha] at h
      cases hl : l.mapM f with
      | none => rw [hl] at h; simp at h
      | some q =>
        rw [hl] at h
        simp at h
        subst h
        cases i with
        | zero => simp at hy; subst hy; exact ⟨a, rfl, ha⟩
        | succ i => simpa using mapM_get hl i y (by simpa using hy)

theorem cells_get {w : World} {base n : Nat} {a : Addr} {cs : List Value} (h : w.cells? base a n = some cs) : ∀ i v, cs[i]? = some v → w.cell? (a.add i) = some v := by
  intro i v hi
  unfold World.cells? at h
  split at h
  · obtain ⟨x, h1, h2⟩ := mapM_get h i v hi
    have : x = i := by
      rw [List.getElem?_range] at h1
      · simpa using h1.symm
      · rcases Nat.lt_or_ge i n with h | h
        · exact h
        · rw [List.getElem?_eq_none (by simpa using h)] at h1; cases h1
    subst this
    exact h2
  · cases h

theorem Opens.slice {P : Program} {t e : TypeId} {Q : List AV → Prop} (ht : P.underlying t = some (.slice e)) (hc : P.cellsOf t = 1) (he : Opens P e Q) (hp : 0 < P.cellsOf e) (hag : agg? P e = some true ∨ agg? P e = some false ∧ P.cellsOf e = 1) :
    Opens P t fun xs => ∃ l : List (List AV), l.length ≤ maxLen ∧ xs = [.lst (P.cellsOf e) (l.map (elemAV P e))] ∧ ∀ y ∈ l, Q y := by
  intro H enc w base spare held fuel cs x h
  rcases Deep.open_slice ht h with ⟨rfl, rfl⟩ | ⟨a, len, cap, m, n, D, Pl, rfl, hb, hl, hm, hmm, rfl, hel⟩
  · refine ⟨_, ⟨[], by simp, rfl, by simp⟩, ⟨_, [], rfl, ⟨none, 0, rfl, by simp, by simp [maxLen], by simp⟩, rfl⟩, by rw [hc]; rfl, by simp [AV.simple], by simp [Value.oneCell']⟩
  · have hle : len ≤ m := by rw [hmm]; split <;> omega
    have hspot0 : 0 < len → a.spot = none := fun hpos => by
      obtain ⟨cs', c1, c2⟩ := hel 0 (by omega)
      obtain ⟨ys, y1, y2, y3, y4, y5⟩ := he H enc w base spare held n cs' _ c2
      have hlen := y2.len
      have hcell := cells_get c1
      cases cs' with
      | nil => simp at hlen; omega
      | cons v vs =>
        have := hcell 0 v rfl
        simp only [Nat.zero_mul, Addr.add, if_true] at this
        unfold World.cell? at this
        split at this
        · split at this
          · cases this
          · rename_i _ _ _ _ hs; simpa using hs
        · cases this
    have hadd : a.spot = none → ∀ n, a.add n = ⟨a.block, a.off + n, none⟩ := fun hs n => by
      unfold Addr.add
      split
      · rename_i h0; rw [h0]; cases a; simp_all
      · rfl
    have key : ∀ k, k ≤ len → ∃ l : List (List AV), l.length = len - k ∧ (∀ y ∈ l, Q y) ∧ (l ≠ [] → a.spot = none) ∧ Rrow XN w [] (l.map (elemAV P e)) (P.cellsOf e) a.block (a.off + k * P.cellsOf e) := by
      intro k
      induction hk : len - k generalizing k with
      | zero => intro _; exact ⟨[], rfl, by simp, by simp, by simp [Rrow]⟩
      | succ j ih =>
        intro hkl
        obtain ⟨l, l1, l2, l3, l4⟩ := ih (k + 1) (by omega) (by omega)
        obtain ⟨cs', c1, c2⟩ := hel k (by omega)
        obtain ⟨ys, y1, y2, y3, y4, y5⟩ := he H enc w base spare held n cs' _ c2
        have hlen := y2.len
        have hcell := cells_get c1
        have hspot : a.spot = none := hspot0 (by omega)
        refine ⟨ys :: l, by simp; omega, by simpa using ⟨y1, l2⟩, fun _ => hspot, ?_, ?_⟩
        · have hcell' : ∀ i v, cs'[i]? = some v → w.cell? ⟨a.block, a.off + k * P.cellsOf e + i, none⟩ = some v ∧ v.oneCell' = true := fun i v hv => by
            have h1 := hcell i v hv
            refine ⟨?_, y5 v (List.mem_of_getElem? hv)⟩
            rw [← h1, hadd hspot, Addr.add_none]
          rcases hag with hag | ⟨hag, h1⟩
          · unfold elemAV; rw [hag]
            exact ⟨y3, Rcells_of0 y2 hcell'⟩
          · unfold elemAV; rw [hag]
            rw [h1] at y3 ⊢
            match ys, y3 with
            | [y], _ =>
              show Re XN w [] y 1 a.block _
              rw [simple_at (y4 y (by simp))]
              obtain ⟨v, vs, rfl, q1, q2⟩ := y2
              have := hcell' 0 v rfl
              rw [h1] at this
              exact ⟨rfl, v, this.1, this.2, q1⟩
        · have e2 : a.off + k * P.cellsOf e + P.cellsOf e = a.off + (k + 1) * P.cellsOf e := by rw [Nat.add_mul]; omega
          rw [e2]
          exact l4
    obtain ⟨l, l1, l2, l3, l4⟩ := key 0 (by omega)
    refine ⟨_, ⟨l, by omega, rfl, l2⟩, ⟨_, [], rfl, ⟨some a, cap, by simp [l1], by simp [l1]; omega, hm, fun hne => ?_⟩, rfl⟩, by rw [hc]; rfl, by simp [AV.simple], by simp [Value.oneCell']⟩
    have hne' : l ≠ [] := by intro e; subst e; simp at hne
    refine ⟨a.block, a.off, ?_, ⟨by simp, by simp⟩, hp, by simpa using l4⟩
    have := l3 hne'
    cases a; simp_all

/-! typed forms -/
theorem map_ex {α : Type} {P : Program} {e : TypeId} {f : α → List AV} {g : α → AV} {W : α → Prop} (hfg : ∀ a, elemAV P e (f a) = g a) : ∀ {l : List (List AV)}, (∀ y ∈ l, ∃ a, W a ∧ y = f a) → ∃ ys : List α, ys.length = l.length ∧ (∀ a ∈ ys, W a) ∧ l.map (elemAV P e) = ys.map g
  | [], _ => ⟨[], rfl, by simp, rfl⟩
  | y :: l, h => by
    obtain ⟨a, ha, rfl⟩ := h y (by simp)
    obtain ⟨ys, h0, h1, h2⟩ := map_ex hfg (l := l) fun z hz => h z (by simp [hz])
    exact ⟨a :: ys, by simp [h0], by simpa using ⟨ha, h1⟩, by simp [h2, hfg]⟩

theorem Opens.sliceT {P : Program} {t e : TypeId} {α : Type} {f : α → List AV} {g : α → AV} {W : α → Prop} (ht : P.underlying t = some (.slice e)) (hc : P.cellsOf t = 1) (he : Opens P e fun xs => ∃ a, W a ∧ xs = f a) (n : Nat) (hn : P.cellsOf e = n) (hp : 0 < n)
    (hag : agg? P e = some true ∨ agg? P e = some false ∧ n = 1) (hfg : ∀ a, elemAV P e (f a) = g a) :
    Opens P t fun xs => ∃ l : List α, (l.length ≤ maxLen ∧ ∀ a ∈ l, W a) ∧ xs = [.lst n (l.map g)] := by
  subst hn
  refine (Opens.slice ht hc he hp hag).mono ?_
  rintro xs ⟨l, h1, rfl, h2⟩
  obtain ⟨ys, h0, h3, h4⟩ := map_ex hfg h2
  exact ⟨ys, ⟨by omega, h3⟩, by rw [h4]⟩

theorem Opens.ints {P : Program} {t e : TypeId} (ht : P.underlying t = some (.slice e)) (hc : P.cellsOf t = 1) (he : P.underlying e = some (.int .i64)) (hn : P.cellsOf e = 1) (hag : agg? P e = some false) :
    Opens P t fun xs => ∃ l : List Int, (l.length ≤ maxLen ∧ ∀ a ∈ l, i64 a) ∧ xs = [.ints l] :=
  Opens.sliceT (f := fun n : Int => [AV.int n]) (g := AV.int) (W := i64) ht hc (Opens.int he hn) 1 hn (by omega) (.inr ⟨hag, rfl⟩) (fun a => by unfold elemAV; rw [hag]; rfl)
theorem Opens.strs {P : Program} {t e : TypeId} (ht : P.underlying t = some (.slice e)) (hc : P.cellsOf t = 1) (he : P.underlying e = some .string) (hn : P.cellsOf e = 1) (hag : agg? P e = some false) :
    Opens P t fun xs => ∃ l : List ByteArray, (l.length ≤ maxLen ∧ ∀ a ∈ l, a.size ≤ maxLen) ∧ xs = [.strs l] :=
  Opens.sliceT (f := fun b : ByteArray => [AV.str b]) (g := AV.str) (W := fun b => b.size ≤ maxLen) ht hc (Opens.str he hn) 1 hn (by omega) (.inr ⟨hag, rfl⟩) (fun a => by unfold elemAV; rw [hag]; rfl)

/-- all arguments -/
inductive OpensAll (P : Program) : List TypeId → (List AV → Prop) → Prop
  | nil : OpensAll P [] fun xs => xs = []
  | cons {t : TypeId} {ts : List TypeId} {Q Q' : List AV → Prop} : (agg? P t = some true ∨ agg? P t = some false ∧ P.cellsOf t = 1) → Opens P t Q → OpensAll P ts Q' → OpensAll P (t :: ts) fun xs => ∃ a b, xs = elemAV P t a :: b ∧ Q a ∧ Q' b

theorem okWide_agg {P : Program} {t : TypeId} {w : World} {r : Reach} {b : Nat} {v : Value} (h : agg? P t = some true) (hv : Value.okWide P w r b t v) : ∃ cs, v = .agg cs := by
  unfold agg? at h
  unfold Value.okWide at hv
  revert h hv
  cases P.underlying t with
  | none => simp
  | some d => cases d <;> simp <;> (intro x h _ _; exact ⟨x, h⟩)

theorem cells_one {v : Value} {cs : List Value} (h : v.cells.toList = cs) (h1 : cs.length = 1) (ho : ∀ u ∈ cs, u.oneCell' = true) (hn : ∀ x, v ≠ .agg x) : cs = [v] := by
  cases v <;> simp_all [Value.cells]

theorem okWide_one {P : Program} {t : TypeId} {w : World} {r : Reach} {b : Nat} {v : Value} (h : agg? P t = some false) (hv : Value.okWide P w r b t v) : ∀ cs, v ≠ .agg cs := by
  rintro cs rfl
  unfold agg? at h
  unfold Value.okWide at hv
  revert h hv
  cases hu : P.underlying t with
  | none => simp
  | some d => cases d <;> simp [Cell.okWide, Cell.ok, hu]

theorem opensAll_run {P : Program} {H : Type} {enc : TypeId × Value → H} {w : World} {base b0 : Nat} {r : Reach} {spare : Nat → Bool} {held : Bool} : ∀ {ts : List TypeId} {Q : List AV → Prop}, OpensAll P ts Q → ∀ {vs : List Value} {ds : List (DataW H)} {ps : List MemPlace},
    DataW.TrodAll enc P w base spare held ts vs ds ps → (∀ (j : Nat) t v, ts[j]? = some t → vs[j]? = some v → Value.okWide P w r b0 t v) → ∃ xs, Q xs ∧ Rvals XN w [] xs vs
  | [], _, .nil, vs, ds, ps, h, _ => by
    obtain ⟨rfl, rfl, rfl⟩ := trodAll_nil h
    exact ⟨[], rfl, rfl⟩
  | t :: ts, _, .cons hag h1 h2, vs, ds, ps, h, hv => by
    obtain ⟨v, vs', d, ds', p, q, rfl, rfl, rfl, ⟨fuel, hd⟩, hr⟩ := trodAll_cons h
    obtain ⟨a, a1, a2, a3, a4, a5⟩ := h1 H enc w base spare held fuel _ _ hd
    obtain ⟨b, b1, b2⟩ := opensAll_run h2 hr fun j t' v' ht' hv' => hv (j + 1) t' v' (by simpa using ht') (by simpa using hv')
    have hov := hv 0 t v rfl rfl
    refine ⟨elemAV P t a :: b, ⟨a, b, rfl, a1, b1⟩, v, vs', rfl, ?_, b2⟩
    rcases hag with hag | ⟨hag, hone⟩
    · obtain ⟨cs, rfl⟩ := okWide_agg hag hov
      unfold elemAV; rw [hag]
      exact ⟨cs.toList, by simp, by simpa [Value.cells] using a2⟩
    · have hl := a2.len
      rw [a3, hone] at hl
      have := cells_one (v := v) rfl hl a5 (okWide_one hag hov)
      rw [this] at a2
      match a, a3.trans hone with
      | [x], _ =>
        obtain ⟨u, us, e, q1, q2⟩ := a2
        simp at e
        unfold elemAV; rw [hag]
        rw [e.1]
        exact q1

theorem Tr.below {w w' : World} (h : Tr w [] w' []) : Below w.heap.size w w' :=
  ⟨h.os, h.tape, h.output, h.size, fun k hk => (h.block k (by simp) hk).2⟩

theorem trodAll_below {P : Program} {H : Type} {enc : TypeId × Value → H} {W W' : World} (hl : laidOutB P = true) (hb : Below W.heap.size W W') : ∀ {ts : List TypeId} {vs : List Value} {ds : List (DataW H)} {ps : List MemPlace},
    (∀ t ∈ ts, P.readableRec t = true ∧ t < P.types.size) → DataW.TrodAll enc P W 0 (fun _ => true) true ts vs ds ps → (∀ x ∈ ps, x.block < W.heap.size) → ∀ sp : Nat → Bool, (∀ x ∈ ps, sp x.block = true) → DataW.TrodAll enc P W' 0 sp true ts vs ds ps
  | [], vs, ds, ps, _, h, _, sp, _ => by
    obtain ⟨rfl, rfl, rfl⟩ := trodAll_nil h
    simp [DataW.TrodAll]
  | t :: ts, vs, ds, ps, hr, h, hlt, sp, hsp => by
    obtain ⟨v, vs', d, ds', p, q, rfl, rfl, rfl, h1, h2⟩ := trodAll_cons h
    refine ⟨p, q, ?_, trodAll_below hl hb (fun t ht => hr t (by simp [ht])) h2 (fun x hx => hlt x (by simp [hx])) sp (fun x hx => hsp x (by simp [hx])), rfl⟩
    exact WideElems.Trod_stays hl (hr t (by simp)).1 (hr t (by simp)).2 h1 (fun x hx => hb.same (hlt x (by simp [hx]))) (fun x hx => hsp x (by simp [hx]))

/-- as the kit's post_of_same, but of frozen cells only what the arguments need -/
theorem post_of_below {P : Program} {H : Type} {enc : TypeId × Value → H} {f : Func} {s : ChangeSpec} {apart fresh handsOn again : Bool} {W W' : World} {args : Array Value} {v : Value} {ds gs : List (DataW H)} {before pa pv : List MemPlace}
    (hW : DataW.Whole enc P f.params.toList s.vars apart W args.toList ds gs before)
    (hres : ∀ (b : Nat) (sp : Nat → Bool) (hd : Bool), DataW.TrodAll enc P W' b sp hd f.resultTypes.toList (v.resultList f.resultTypes.size) (s.fn H (ds ++ gs)).results [])
    (hargs : ∀ sp : Nat → Bool, (∀ p ∈ before, sp p.block = true) → DataW.TrodAll enc P W' 0 sp true f.params.toList args.toList (s.fn H (ds ++ gs)).args pa)
    (hvars : ∀ sp : Nat → Bool, (∀ p ∈ before, sp p.block = true) → DataW.TrodVars enc P W' sp s.vars (s.fn H (ds ++ gs)).vars pv)
    (hps : before = pa ++ pv) (hk : W.keptBut W' (· ∈ before)) (hfz : ∀ a : Addr, a.block < W.heap.size → W'.frozen? a = W.frozen? a)
    (hok : ∀ (j : Nat) (t : TypeId) (r : Value), f.resultTypes[j]? = some t → (v.resultList f.resultTypes.size)[j]? = some r → Value.okWide P W' .any 0 t r) :
    s.post enc P f apart fresh handsOn again W args v W' := by
  have hold : ∀ p ∈ before, (fun b => decide (b < W.heap.size)) p.block = true := fun p hp => by simpa using hW.lt p hp
  refine ⟨ds, gs, before, [], pa, pv, hW, hres _ _ _, hargs _ hold, hvars _ hold, World.keptBut_mono (fun p hp => ⟨hp, ?_⟩) hk, fun _ => ?_⟩
  · rw [hps, List.mem_append] at hp
    exact Or.inr hp
  · have hlt := hW.lt
    obtain ⟨_, _, _, _, _, hz, hn⟩ := hW
    refine ⟨hok, _, _, ([] ++ pa) ++ pv, ⟨[] ++ pa, pv, trodAll_append (hargs _ (fun _ _ => rfl)) (hres _ _ _), hvars _ (fun _ _ => rfl), rfl, ?_, ?_⟩, ?_⟩
    · intro b off hp
      have hp' := hp
      rw [hfz]
      · exact hz b off (by rw [hps]; simpa using hp)
      · have := hlt (.cell b off) (by rw [hps]; simpa using hp)
        exact this
    · intro ha
      have := hn ha
      rw [hps] at this
      simpa using this
    · intro p hp _
      rw [hps]
      simpa using hp

theorem gd_none (h : GB = none) (h2 : GR = none) (h3 : GV = none) (W : World) : Gd XN W [] := ⟨fun g hg => (by rw [h] at hg; cases hg), fun g s hg => (by rw [h2] at hg; cases hg), fun g v hg => (by rw [h3] at hg; cases hg)⟩
/-- a law's contract, from its 'Pure' at what the arguments read as -/
theorem law_contract_one {P : Program} {f : FuncId} {fn : Func} {s : ChangeSpec} {tb : TypeId} (hl : laidOutB P = true) (hts : ∀ t ∈ fn.params.toList, P.readableRec t = true ∧ t < P.types.size)
    (hv0 : s.vars = []) (hs : ∀ (H : Type) (ds : List (DataW H)), ds.length = fn.params.toList.length → s.fn H ds = { results := [.lit (.bool true)], args := ds }) (hrt : fn.resultTypes = #[tb]) (htb : P.underlying tb = some .bool)
    {W : World} {args : Array Value} (xs : List AV) (hR : Rvals XN W [] xs args.toList) (hp : Pure P f xs (.bool true))
    (H : Type) (enc : TypeId × Value → H) (base : Nat) (ds gs : List (DataW H)) (before : List MemPlace)
    (hval : ∀ (j : Nat) t v, fn.params[j]? = some t → args[j]? = some v → Value.okWide P W .any base t v)
    (hW : DataW.Whole enc P fn.params.toList s.vars false W args.toList ds gs before) (hgd : Gd XN W []) :
    Calls P f args W fun e W' => ∃ v, e = .returned v ∧ s.post enc P fn false true false false W args v W' := by
  have hW' := hW
  obtain ⟨p, q, hA, hV, hbef, hfz, hnd⟩ := hW
  rw [hv0] at hV
  obtain ⟨rfl, rfl⟩ := trodVars_none hV
  have hlen : ds.length = fn.params.toList.length := by
    clear hval hR hW' hV hbef hnd hfz hts hs
    generalize fn.params.toList = ts at hA
    generalize args.toList = vs at hA
    clear hv0 hrt
    revert vs ds p
    induction ts with
    | nil => intro ds p vs h; obtain ⟨rfl, rfl, rfl⟩ := trodAll_nil h; rfl
    | cons t ts ih => intro ds p vs h; obtain ⟨v, vs', d, ds', p, q, rfl, rfl, rfl, h1, h2⟩ := trodAll_cons h; simp [ih _ _ _ h2]
  have hc := hp XN W [] args.toList (Inv.empty (by simp) hgd) hR
  rw [show args.toList.toArray = args by simp] at hc
  refine hc.mono fun e W' h => ?_
  obtain ⟨v, x, m', ρ', rfl, ⟨rfl, rfl⟩, hv, hi, ht⟩ := h
  have : ρ' = [] := List.length_eq_zero_iff.1 hi.len
  subst this
  have hvb : v = .bool true := hv
  subst hvb
  have hb := ht.below
  have hlt : ∀ x ∈ p, x.block < W.heap.size := fun x hx => by simpa using hW'.lt x (by rw [hbef]; simp [hx])
  have hsf : s.fn H (ds ++ []) = { results := [.lit (.bool true)], args := ds } := by rw [List.append_nil]; exact hs H ds hlen
  refine ⟨_, rfl, post_of_below (pa := p) (pv := []) hW' ?_ ?_ ?_ hbef (hb.frame _) (fun a ha => hb.frozen ha) (ok_one hrt rfl (okWide_bool_mk htb _))⟩
  · intro b sp hd
    rw [hrt, hsf]
    exact trodAll_cons_mk (shut_bool htb _) trodAll_mk0
  · intro sp hsp
    rw [hsf]
    exact trodAll_below hl hb hts hA hlt sp (fun x hx => hsp x (by rw [hbef]; simp [hx]))
  · intro sp hsp
    rw [hsf, hv0]
    rfl

/-- a law's contract, from its 'Pure' -/
theorem law_contract {P : Program} {f : FuncId} {fn : Func} {s : ChangeSpec} {Q : List AV → Prop} {tb : TypeId} (hl : laidOutB P = true) (hts : ∀ t ∈ fn.params.toList, P.readableRec t = true ∧ t < P.types.size)
    (hv0 : s.vars = []) (hs : ∀ (H : Type) (ds : List (DataW H)), ds.length = fn.params.toList.length → s.fn H ds = { results := [.lit (.bool true)], args := ds }) (hrt : fn.resultTypes = #[tb]) (htb : P.underlying tb = some .bool)
    (hO : OpensAll P fn.params.toList Q) (hp : ∀ xs, Q xs → Pure P f xs (.bool true))
    (H : Type) (enc : TypeId × Value → H) (W : World) (base : Nat) (args : Array Value) (ds gs : List (DataW H)) (before : List MemPlace)
    (hval : ∀ (j : Nat) t v, fn.params[j]? = some t → args[j]? = some v → Value.okWide P W .any base t v)
    (hW : DataW.Whole enc P fn.params.toList s.vars false W args.toList ds gs before) (hgd : Gd XN W []) :
    Calls P f args W fun e W' => ∃ v, e = .returned v ∧ s.post enc P fn false true false false W args v W' := by
  have hW0 := hW
  obtain ⟨p, q, hA, hV, hbef, hfz, hnd⟩ := hW
  obtain ⟨xs, hQ, hR⟩ := opensAll_run (r := .any) (b0 := base) hO hA (fun j t v ht hv => hval j t v (by simpa using ht) (by simpa using hv))
  exact law_contract_one hl hts hv0 hs hrt htb xs hR (hp xs hQ) H enc base ds gs before hval hW0 hgd
end Go.Vg
