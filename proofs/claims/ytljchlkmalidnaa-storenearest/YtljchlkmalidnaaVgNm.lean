/- The abstract machine, part Nm: nil slices in structs that are built; appending to an empty slice. -/
import Derived.Test.YtljchlkmalidnaaVgNl
set_option linter.all false
set_option linter.unusedVariables false
set_option linter.unusedSimpArgs false
namespace Go.Vg
open Go.RowKit
variable {P : Program} {gds : List (Option Nat)} {l : List Oper} {Q : S → Prop} {s : S}

/-- a struct by its parts, the others exactly as they are at first -/
def buildN (P : Program) (E : Operand → AV) (t : TypeId) (parts : List (Nat × Operand)) : Option (AV × Prop) :=
  match fplaces P t, tz P t with
  | some pl, some (.agg cs) =>
    match fillA pl E (cs.toList.map AV.val) parts with
    | some (xs, p) => some (.agg xs, p)
    | none => none
  | _, _ => none
theorem Rvals_val {X : Nat → Prop} {w : World} {ρ : Rho} : ∀ l : List Value, Rvals X w ρ (l.map AV.val) l
  | [] => rfl
  | v :: l => ⟨v, l, rfl, rfl, Rvals_val l⟩
theorem buildN_run {X : Nat → Prop} {w : World} {ρ : Rho} {E : Operand → AV} {a : Act} {t : TypeId} {parts : Array (Nat × Operand)} (ho : ∀ q ∈ parts.toList, R X w ρ (E q.2) (a.eval q.2)) {z : AV} {p : Prop} (h : buildN P E t parts.toList = some (z, p)) (hp : p) :
    ∃ v, (Instr.build t (parts.map fun (i, x) => (i, a.eval x))).run P w = .ok v w ∧ R X w ρ z v := by
  unfold buildN at h
  split at h
  · rename_i pl cs hpl hzs
    split at h
    · rename_i xs q hf
      simp only [Option.some.injEq, Prod.mk.injEq] at h
      obtain ⟨rfl, rfl⟩ := h
      have z1 : (zeroValue t).run P w = .ok (.agg cs) w := by
        unfold tz at hzs
        cases hi : P.info? t with
        | none => simp [hi] at hzs
        | some i => simp [hi] at hzs; simp [zeroValue, typeInfo, hi, hzs]
      have z2 := Rvals_val (X := X) (w := w) (ρ := ρ) cs.toList
      have hmap : (parts.map fun (i, x) => (i, a.eval x)).toList = parts.toList.map fun q => (q.1, a.eval q.2) := by simp
      have hcs : cs.toList.toArray = cs := by simp
      unfold fplaces at hpl
      unfold Instr.build
      split at hpl
      · rename_i fs hu
        obtain ⟨us, u1, u2⟩ := fill_run (place := fun i => pl.toArray[i]?) (fun f q h => by simpa using h) parts.toList _ _ xs q ho z2 hf hp
        rw [hcs] at u1
        refine ⟨.agg us.toArray, ?_, us, rfl, u2⟩
        simp only [Sem.run_bind, z1, Result.andThen_ok, Sem.run_pure, run_underlying hu, Value.cells]
        rw [Array.mapM_eq_mapM_toList]
        simp only [Sem.run_map, places_run hpl, Result.andThen_ok, hmap, u1, Sem.run_pure]
      · rename_i n e hu
        cases hs : tsz P e with
        | none => simp [hs] at hpl
        | some s =>
          simp [hs] at hpl
          subst hpl
          obtain ⟨us, u1, u2⟩ := fill_run (place := fun i => some (i * s, s)) (fun f q h => by
            simp only [List.getElem?_map, Option.map_eq_some_iff] at h
            obtain ⟨i, hi, rfl⟩ := h
            rw [List.getElem?_range] at hi
            · simp at hi; subst hi; rfl
            · have := (List.getElem?_eq_some_iff.1 hi).1; simpa using this) parts.toList _ _ xs q ho z2 hf hp
          rw [hcs] at u1
          refine ⟨.agg us.toArray, ?_, us, rfl, u2⟩
          simp only [Sem.run_bind, z1, Result.andThen_ok, Sem.run_pure, run_underlying hu, Value.cells, run_sizeOf hs, hmap, u1]
      · cases hpl
    · cases h
  · cases h
theorem buildN_yield {t : List (Nat × AV)} {m : Mem} {dst : Option Nat} {ty type : TypeId} {parts : Array (Nat × Operand)} {pos : String} {after : Array Edge} {z : AV} {p : Prop} (h : buildN P (evo t) ty parts.toList = some (z, p)) (hp : p) : Yield P gds t m ⟨dst, .build ty parts, type, pos, after, none⟩ z := by
  refine ⟨fun c e => (by cases e), fun X w ρ a hi hr hn => ⟨fun _ => ?_, fun hw => (by simp [Region.wanted] at hw)⟩⟩
  have ho := evo_of (op := .build ty parts) (fun n hn => hr n (.inr hn))
  obtain ⟨v, h1, h2⟩ := buildN_run (P := P) (a := a) (fun q hq => ho q.2 (by
    simp only [Op.operands, List.mem_toArray, List.mem_map]
    exact ⟨q, hq, rfl⟩)) h hp
  refine .inl ⟨v, w, ?_, h2, hi, Tr.refl w ρ⟩
  simp only [execOp, Sem.run_bind, h1, Result.andThen_ok, Sem.run_pure]
theorem Run.buildN {dst : Option Nat} {ty type : TypeId} {parts : Array (Nat × Operand)} {pos : String} {after : Array Edge} {z : AV} {p : Prop} (h : Go.Vg.buildN P (evo s.t) ty parts.toList = some (z, p)) (hp : p) (k : Run P gds l Q (putA s dst z)) : Run P gds (⟨dst, .build ty parts, type, pos, after, none⟩ :: l) Q s := Run.yieldN (buildN_yield h hp) k
/-- nothing is appended to an empty slice -/
theorem app0_yield {t : List (Nat × AV)} {m : Mem} {dst : Option Nat} {ty uy type e e' : TypeId} {x y : Operand} {pos : String} {after : Array Edge} {A : Addr} {id ver off : Nat} (ht : uk P ty = .slice e) (hu : uk P uy = .slice e') (hel : elB P e = true) (hx : evo t x = .non A) (hy : evo t y = .osl id ver off 0) :
    Yield P gds t m ⟨dst, .call ⟨.builtin .append, #[x, y], #[ty, uy]⟩, type, pos, after, none⟩ (.non A) := by
  refine ⟨fun c e => (by cases e), fun X w ρ a hi hr hn => ⟨fun _ => ?_, fun hw => (by simp [Region.wanted] at hw)⟩⟩
  have ho := evo_of (op := .call ⟨.builtin .append, #[x, y], #[ty, uy]⟩) (fun n hn => hr n (.inr hn))
  have h1 := ho x (by simp [Op.operands, Call.operands])
  have h2 := ho y (by simp [Op.operands, Call.operands])
  rw [hx, R_val] at h1
  rw [hy] at h2
  obtain ⟨A', c, r, h3, _⟩ := h2
  obtain ⟨i, z0, hinfo, hz0, hzs, hpos⟩ := elB_some hel
  rcases append_run (P := P) (w := w) (ty := type) (uk_slice ht) (uk_slice hu) hinfo hz0 hzs (A := some A) (A' := A') (len := 0) (c := 0) (n := 0) (c' := c) (olds := []) (news := []) (by simp) (by simp) (by simp) (by simp) (by simp) (by simp [maxLen]) with ⟨_, h4⟩ | ⟨h4, _⟩
  · have h5 := h4 w (by simp [storeCells])
    exact .inl ⟨.slice (some A) 0 0, w, by unfold execOp; simp [resolve, invoke, builtin, h1, h3, h5], rfl, hi, Tr.refl w ρ⟩
  · omega
theorem Run.app0 {dst : Option Nat} {ty uy type e e' : TypeId} {x y : Operand} {pos : String} {after : Array Edge} {A : Addr} {id ver off : Nat} (ht : uk P ty = .slice e) (hu : uk P uy = .slice e') (hel : elB P e = true) (hx : evo s.t x = .non A) (hy : evo s.t y = .osl id ver off 0) (k : Run P gds l Q (putA s dst (.non A))) : Run P gds (⟨dst, .call ⟨.builtin .append, #[x, y], #[ty, uy]⟩, type, pos, after, none⟩ :: l) Q s := Run.yieldN (app0_yield ht hu hel hx hy) k
/-- an empty slice literal to which we append -/
theorem Run.lit0e {dst : Option Nat} {ty type : TypeId} {pos : String} {after : Array Edge} {sz : Nat} {p : Prop} (h : bldA P (evo s.t) (.buildSlice ty 0 #[]) = some (sz, [], p)) (hp : p)
    (k : Run P gds l Q (putA s dst .emp)) : Run P gds (⟨dst, .buildSlice ty 0 #[], type, pos, after, none⟩ :: l) Q s := by
  refine Run.yieldN (x := .emp) ⟨fun c e => (by cases e), fun X w ρ a hi hr hn => ⟨fun _ => ?_, fun hw => (by simp [Region.wanted] at hw)⟩⟩ k
  obtain ⟨e, arr, vs, h1, _⟩ := bldA_run (P := P) (o := ⟨dst, .buildSlice ty 0 #[], type, pos, after, none⟩) (X := X) (w := w) (ρ := ρ) (a := a) (fun y hy => by simp [Op.operands] at hy) h hp
  obtain ⟨q1, q2⟩ := push_keep hi arr e
  exact .inl ⟨_, _, h1, ⟨_, rfl⟩, q2, q1⟩
end Go.Vg
