/- The abstract machine, part Nl: slices that are compared with nil; empty ones that are not nil. -/
import Derived.Test.YtljchlkmalidnaaVgAp
import Derived.Test.YtljchlkmalidnaaVgEb
set_option linter.all false
set_option linter.unusedVariables false
namespace Go.Vg
open Go.RowKit
variable {P : Program} {gds : List (Option Nat)} {l : List Oper} {Q : S → Prop} {s : S}

/-- nil itself -/
abbrev AV.nil : AV := .val (.slice none 0 0)
/-- an empty slice that is not nil -/
abbrev AV.non (A : Addr) : AV := .val (.slice (some A) 0 0)
/-- whether a slice is nil, where that is known -/
def nilB (m : Mem) : AV → Option Bool
  | .val (.slice A _ _) => some A.isNone
  | .lst _ (_ :: _) => some false
  | .osl id ver _ (_ + 1) =>
    match m[id]? with
    | some ⟨v, _⟩ => if v = ver then some false else none
    | none => none
  | _ => none
theorem nilB_rel {X : Nat → Prop} {w : World} {ρ : Rho} {m : Mem} (hi : Inv X w ρ m) {x : AV} {b : Bool} (h : nilB m x = some b) {v : Value} (hx : R X w ρ x v) : ∃ A n c, v = .slice A n c ∧ A.isNone = b := by
  unfold nilB at h
  split at h
  · rename_i A n c
    rw [R_val] at hx
    subst hx
    exact ⟨A, n, c, rfl, by simpa using h⟩
  · rename_i sz y l
    obtain ⟨A, c, h1, h2, h3, h4⟩ := hx
    obtain ⟨b0, o, hA, _⟩ := h4 (by simp)
    simp only [Option.some.injEq] at h
    exact ⟨A, _, c, h1, by rw [hA, ← h]; rfl⟩
  · rename_i id ver off len
    split at h
    · rename_i v0 k he
      split at h
      · rename_i hv
        obtain ⟨A, c, r, h1, h2, h3, h4⟩ := hx
        have h5 := (hi.at_ id r _ h2 he).1
        simp only at h5
        obtain ⟨h6, h7, h8⟩ := h4 (by omega)
        obtain ⟨b0, _, hA, _⟩ := h8 (by omega)
        simp only [Option.some.injEq] at h
        exact ⟨A, _, c, h1, by rw [hA, ← h]; rfl⟩
      · cases h
    · cases h
  · cases h
theorem run_equalIn_nil {w : World} {t e : TypeId} (d : Nat) (hu : P.underlying t = some (.slice e)) (A : Option Addr) (n c : Nat) : (Op.equalIn (d + 1) t (.slice A n c) (.slice none 0 0)).run P w = .ok A.isNone w := by
  cases A <;> simp [Op.equalIn, run_underlying hu]
theorem run_equal_nil {w : World} {t e : TypeId} (hu : P.underlying t = some (.slice e)) (A : Option Addr) (n c : Nat) : (Op.equal t (.slice A n c) (.slice none 0 0)).run P w = .ok A.isNone w := by
  unfold Op.equal Op.maxDepth
  exact run_equalIn_nil 9999 hu A n c
theorem nil_yield {t : List (Nat × AV)} {m : Mem} {dst : Option Nat} {xt yt type : TypeId} {x : Operand} {pos : String} {after : Array Edge} {e : TypeId} (eq : Bool) (hu : uk P xt = .slice e) {b : Bool} (hb : nilB m (evo t x) = some b) :
    Yield P gds t m ⟨dst, .binOp (if eq then .eql else .neq) xt x (.const (.slice none 0 0)) yt, type, pos, after, none⟩ (.bool (if eq then b else !b)) := by
  refine ⟨fun c e => (by cases eq <;> cases e), fun X w ρ a hi hr hn => ⟨fun _ => ?_, fun hw => (by simp [Region.wanted] at hw)⟩⟩
  have hx : R X w ρ (evo t x) (a.eval x) := evo_of (fun n hn => hr n (.inr hn)) x (by simp [Op.operands])
  obtain ⟨A, n, c, hv, hA⟩ := nilB_rel hi hb hx
  have hg := run_eqGuard_val (P := P) (w := w) (op := if eq then .eql else .neq) (t := xt) (x := x) (y := .const (.slice none 0 0)) (a := .slice A n c) (b := .slice none 0 0) (by simp) (by simp)
  have he := run_equal_nil (P := P) (w := w) (uk_slice hu) A n c
  rw [hA] at he
  have hc : a.eval (.const (.slice none 0 0)) = .slice none 0 0 := rfl
  refine .inl ⟨.bool (if eq then b else !b), w, ?_, rfl, hi, Tr.refl w ρ⟩
  cases eq
  · simp only [Bool.false_eq_true, if_false] at hg ⊢
    simp only [execOp, hv, hc, Sem.run_bind, hg, Result.andThen_ok, binOp, he, Sem.run_pure]
  · simp only [if_true] at hg ⊢
    simp only [execOp, hv, hc, Sem.run_bind, hg, Result.andThen_ok, binOp, he, Sem.run_pure]
/-- an operation whose value is known but for an address -/
theorem Run.valX {o : Oper} (hg0 : o.guard = none) (hdf : ∀ c, o.op ≠ .defer c) (h : ∀ (X : Nat → Prop) (a : Act) (w : World) (ρ : Rho), Rel X s a w ρ → ∃ A w', (execOp a.eval o).run P w = .ok (.value (.slice (some A) 0 0)) w' ∧ Tr w ρ w' ρ ∧ Inv X w' ρ s.m)
    (k : ∀ A, Run P gds l Q (s.put o.dst (.non A))) : Run P gds (o :: l) Q s := by
  intro hg hd
  refine Run.eff (fun X r a w ρ hr => ?_) hg hd
  unfold opwp
  have hw : Region.wanted o (yieldedG gds a.tmps) = true := by simp [Region.wanted, hg0]
  rw [if_pos hw]
  obtain ⟨A, w', h1, h2, h3⟩ := h X a w ρ hr
  have hrel : Rel X (s.put o.dst (.non A)) (a.put o.dst (.slice (some A) 0 0)) w' ρ := (hr.step (m' := s.m) h2 h3).put (hd o (by simp)) rfl
  refine ⟨fun _ _ => trivial, ?_⟩
  rw [Oper.semAt_eq _ _ _ hdf, h1]
  exact ⟨_, ρ, ⟨by rw [S.put_n], k A⟩, hrel, h2⟩
theorem push_keep {X : Nat → Prop} {w : World} {ρ : Rho} {m : Mem} (hi : Inv X w ρ m) (arr : Array Value) (e : TypeId) : Tr w ρ { w with heap := w.heap.push (.cells arr e) } ρ ∧ Inv X { w with heap := w.heap.push (.cells arr e) } ρ m := by
  have htr : Tr w ρ { w with heap := w.heap.push (.cells arr e) } ρ := ⟨rfl, rfl, rfl, by simp, fun _ r h => ⟨r, h, Nat.le_refl _, fun _ => rfl⟩, fun b hb hlt => ⟨hb, by simp [Array.getElem?_push_lt hlt, hlt]⟩⟩
  have hk0 : Tr w [] { w with heap := w.heap.push (.cells arr e) } [] := ⟨rfl, rfl, rfl, by simp, fun _ r h => (by simp at h), fun b hb hlt => ⟨fun r hr => (by cases hr), by simp [Array.getElem?_push_lt hlt, hlt]⟩⟩
  exact ⟨htr, hi.keep hk0⟩
/-- make of no element -/
theorem Run.make0 {dst : Option Nat} {ty type e : TypeId} {x y : Operand} {pos : String} {after : Array Edge} {z : AV} (hu : uk P ty = .slice e) (hz : zAV P e = some z) (hel : elB P e = true) (hx : evo s.t x = .int 0) (hy : evo s.t y = .int 0)
    (k : ∀ A, Run P gds l Q (putA s dst (.non A))) : Run P gds (⟨dst, .makeSlice ty x y, type, pos, after, none⟩ :: l) Q s := by
  refine Run.valX rfl (fun c e => by cases e) (fun X a w ρ hr => ?_) (fun A => by have := k A; rw [putA_eq] at this; exact this)
  obtain ⟨i, z0, hinfo, hz0, hzs, hpos⟩ := elB_some hel
  have h1 : a.eval x = .int .i64 0 := by have := evo_rel hr.tmps x; rw [hx, R_val] at this; exact this
  have h2 : a.eval y = .int .i64 0 := by have := evo_rel hr.tmps y; rw [hy, R_val] at this; exact this
  have hrun := run_make (P := P) w ty e i z0 (uk_slice hu) hinfo hz0 .i64 .i64 0 0 (by omega) (by omega) (by omega) (by omega)
  refine ⟨⟨w.heap.size, 0, none⟩, w.alloc (.cells (madeCells z0.cells (Int.toNat 0 * i.size)) e), ?_, push_keep hr.inv _ _⟩
  simp only [execOp, h1, h2, Sem.run_bind, hrun, Result.andThen_ok, Sem.run_pure]
  rfl
/-- nil is laid, as nil -/
theorem nilc_yield {t : List (Nat × AV)} {m : Mem} {dst : Option Nat} {type : TypeId} {pos : String} {after : Array Edge} : Yield P gds t m ⟨dst, .assign (.const (.slice none 0 0)), type, pos, after, none⟩ .nil :=
  ⟨fun c e => (by cases e), fun X w ρ a hi hr hn => ⟨fun _ => .inl ⟨.slice none 0 0, w, by simp only [execOp, Sem.run_pure]; rfl, rfl, hi, Tr.refl w ρ⟩, fun hw => (by simp [Region.wanted] at hw)⟩⟩
theorem Run.yieldN {o : Oper} {x : AV} (h : Yield P gds s.t s.m o x) (k : Run P gds l Q (putA s o.dst x)) : Run P gds (o :: l) Q s :=
  h.stepAt.run (by rw [putA_eq] at k; exact k)
theorem Run.nilc {dst : Option Nat} {type : TypeId} {pos : String} {after : Array Edge} (k : Run P gds l Q (putA s dst .nil)) : Run P gds (⟨dst, .assign (.const (.slice none 0 0)), type, pos, after, none⟩ :: l) Q s := Run.yieldN nilc_yield k
theorem Run.isNil {dst : Option Nat} {xt yt type : TypeId} {x : Operand} {pos : String} {after : Array Edge} {e : TypeId} {b : Bool} (hu : uk P xt = .slice e) (hb : nilB s.m (evo s.t x) = some b) (k : Run P gds l Q (putA s dst (.bool b))) : Run P gds (⟨dst, .binOp .eql xt x (.const (.slice none 0 0)) yt, type, pos, after, none⟩ :: l) Q s := Run.yieldN (nil_yield true hu hb) k
theorem unE_yield {t : List (Nat × AV)} {m : Mem} {o : Oper} {x : AV} (h : Yield P gds (t.map unE) m o x) : Yield P gds t m o x :=
  ⟨h.1, fun X w ρ a hi hr hn => h.2 X w ρ a hi (fun n hn' => look_unE t n (hr n hn')) hn⟩
/-- in a region that draws: an operation whose guard holds -/
theorem Abn.gtrue {s1 : S} {dst : Option Nat} {op : Op} {type : TypeId} {pos : String} {after : Array Edge} {g : Nat × Bool} {x : AV} {p : Prop} {t' : List (Nat × AV)} (hg : gval gds s.t g = some true) (ht : s.t.map unE = t') (h : stepA P gds t' s.m ⟨dst, op, type, pos, after, none⟩ = some (x, p)) (hp : p) (k : Abn P gds l (putA s dst x) s1) : Abn P gds (⟨dst, op, type, pos, after, some g⟩ :: l) s s1 :=
  Abn.yield (guardT_yield hg (unE_yield (by rw [ht]; exact stepA_yield h hp))) (by rw [putA_eq] at k; exact k)
/-- we need no longer know how it is empty -/
theorem Wp.empt {r : Option Nat} {c : Code} {Q : Exit → S → Prop} {s : S} (n sz : Nat) {A : Option Addr} (h : look s.t n = .val (.slice A 0 0)) (k : Wp P r c Q { s with t := (n, .lst sz []) :: s.t }) : Wp P r c Q s := by
  intro X a w ρ hr
  have hx := hr.tmps n
  rw [h, R_val] at hx
  exact k X a w ρ (hr.setT ⟨A, 0, hx, Nat.le_refl _, Nat.zero_le _, fun h => absurd rfl h⟩)
end Go.Vg
