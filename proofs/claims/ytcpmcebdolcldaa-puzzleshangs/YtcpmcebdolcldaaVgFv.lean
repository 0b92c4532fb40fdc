/- The abstract machine, part Fv: a region that draws its order and makes memory several times; one with two effects, one behind the other. -/
import Derived.Test.YtcpmcebdolcldaaVgFr
set_option linter.all false
set_option linter.unusedVariables false
namespace Go.Vg
open Go.RowKit
variable {P : Program}

theorem get_some_app {m l : Mem} {id : Nat} {e : Ent} (h : m[id]? = some e) : (m ++ l)[id]? = some e := by
  rw [List.getElem?_append_left (List.getElem?_eq_some_iff.1 h).1]; exact h
theorem map_ver_app' {m : Mem} (l : Mem) {id ver : Nat} (h : (m[id]?).map (·.ver) = some ver) : ((m ++ l)[id]?).map (·.ver) = some ver := by
  cases he : m[id]? with
  | none => rw [he] at h; cases h
  | some e => rw [get_some_app he, ← he]; exact h
theorem idxA_app {m : Mem} (l : Mem) {t : TypeId} {x i : AV} {r : AV × Prop} (h : idxA P m t x i = some r) : idxA P (m ++ l) t x i = some r := by
  unfold idxA at h
  split at h
  · rename_i hu
    unfold idxA; simp only [hu]; exact h
  · rename_i id ver off len kk k hu
    unfold idxA; simp only [hu]
    cases he : m[id]? with
    | none => rw [he] at h; cases h
    | some e => rw [get_some_app he]; rw [he] at h; exact h
  · unfold idxA
    cases hu : uk P t <;> exact h
  · rename_i id ver i0 j kk k
    unfold idxA
    split at h <;> (try (cases h; done))
    rename_i n e ha
    split at h <;> (try (cases h; done))
    rename_i sz hsz
    split at h <;> (try (cases h; done))
    rename_i hm
    simp only [ha, hsz, map_ver_app' l hm, if_true]
    cases hu : uk P t <;> exact h
  · cases h
theorem loadA_app {m : Mem} (l : Mem) {t : TypeId} {x : AV} {r : AV × Prop} (h : loadA P m t x = some r) : loadA P (m ++ l) t x = some r := by
  unfold loadA at h ⊢
  cases ha : agg? P t with
  | none => rw [ha] at h; cases h
  | some b =>
    cases b <;> cases hz : tsz P t <;> rw [ha, hz] at h <;> cases x <;> (try (cases h; done)) <;> (try exact h) <;> simp only at h ⊢
    all_goals
      rename_i id ver i j
      cases he : m[id]? with
      | none => rw [he] at h; cases h
      | some en => rw [get_some_app he]; rw [he] at h; exact h
theorem map_ver_app {m : Mem} (l : Mem) {id ver : Nat} (h : (m[id]?).map (·.ver) = some ver) : ((m ++ l)[id]?).map (·.ver) = some ver := by
  cases he : m[id]? with
  | none => rw [he] at h; cases h
  | some e => rw [get_some_app he, ← he]; exact h
theorem fieldAddrA_app {m : Mem} (l : Mem) {t : TypeId} {x : AV} {f : Nat} {r : AV × Prop} (h : fieldAddrA P m t x f = some r) : fieldAddrA P (m ++ l) t x f = some r := by
  unfold fieldAddrA at h ⊢
  cases hf : fOff P t f with
  | none => rw [hf] at h; cases h
  | some ou =>
    obtain ⟨o, u⟩ := ou
    rw [hf] at h
    simp only at h ⊢
    cases hz : tsz P u with
    | none => rw [hz] at h; cases h
    | some n =>
      rw [hz] at h
      cases n with
      | zero => cases h
      | succ n =>
        cases x <;> (try (cases h; done)) <;> (try exact h)
        simp only at h ⊢
        split at h
        · rename_i hv; rw [if_pos (map_ver_app l hv)]; exact h
        · cases h
theorem lookA_app {m : Mem} (l : Mem) {t : TypeId} {x k : AV} {c : Bool} {r : AV × Prop} (h : lookA P m t x k c = some r) : lookA P (m ++ l) t x k c = some r := by
  unfold lookA at h ⊢
  split at h <;> (try (cases h; done))
  rename_i id ver kt et kv hmt hkv
  cases he : m[id]? with
  | none => rw [he] at h; cases h
  | some e => rw [get_some_app he]; rw [he] at h; exact h
def isSlc : Op → Bool
  | .slice .. => true
  | _ => false
/-- what reads memory reads the same if there is more of it -/
theorem ev_app {E B : Operand → AV} {m : Mem} (l : Mem) {op : Op} {r : AV × Prop} (hsl : isSlc op = false) (h : ev P E B m op = some r) : ev P E B (m ++ l) op = some r := by
  cases op <;> (try exact h)
  case load t a => exact loadA_app l h
  case nilCheck x =>
    unfold ev at h ⊢
    simp only at h ⊢
    cases hx : E x <;> rw [hx] at h <;> (try (cases h; done)) <;> (try exact h)
    simp only at h ⊢
    split at h
    · rename_i hv; rw [if_pos (map_ver_app l hv)]; exact h
    · cases h
  case slice t x lo hi mx => cases hsl
  case lookup t x k c => exact lookA_app l h
  case fieldAddr t x f => exact fieldAddrA_app l h
  case indexAddr t x i => exact idxA_app l h
theorem stepA_app {gds : List (Option Nat)} {t : List (Nat × AV)} {m : Mem} (l : Mem) {o : Oper} {r : AV × Prop} (hsl : isSlc o.op = false) (h : stepA P gds t m o = some r) : stepA P gds t (m ++ l) o = some r := by
  unfold stepA at h ⊢
  cases hg : o.guard with
  | none => rw [hg] at h; exact ev_app l hsl h
  | some g =>
    rw [hg] at h
    simp only at h ⊢
    cases hb : gval gds t g with
    | none => rw [hb] at h; cases h
    | some b =>
      rw [hb] at h
      simp only at h ⊢
      cases he : ev P (fun x => (unopt (evo t x)).2) (evo t) m o.op with
      | none => rw [he] at h; cases h
      | some xp => rw [ev_app l hsl he]; rw [he] at h; exact h

/-- a region whose operations compute, or make memory -/
inductive AbsV (P : Program) (gds : List (Option Nat)) (m : Mem) (n : Nat) : Nat → List Oper → List (Nat × AV) → Nat → List (Nat × AV) → List (Nat × Nat × List AV) → Prop where
  | nil {k j : Nat} {t : List (Nat × AV)} : AbsV P gds m n k [] t j t []
  | cons {k j : Nat} {o : Oper} {l : List Oper} {t t' : List (Nat × AV)} {x : AV} {p : Prop} {es : List (Nat × Nat × List AV)} : dstB n o.dst = true → isSlc o.op = false → stepA P gds t m o = some (x, p) → p → AbsV P gds m n (k + 1) l (upd t o.dst x) j t' es → AbsV P gds m n k (o :: l) t j t' es
  | alcS {k j : Nat} {dst : Option Nat} {op : Op} {type : TypeId} {pos : String} {after : Array Edge} {l : List Oper} {t t' : List (Nat × AV)} {sz : Nat} {row : List AV} {q : Option Nat} {es : List (Nat × Nat × List AV)} : dstB n dst = true → (∀ (m' : Mem) (id ver : Nat) (k0 : Kind), m'[id]? = some ⟨ver, k0⟩ → StepAt P gds t m' ⟨dst, op, type, pos, after, none⟩ (m'.set id ⟨ver + 1, .row sz row⟩) (alcV id (ver + 1) q)) → AbsV P gds m n (k + 1) l (upd t dst (alcV (m.length + j) 1 q)) (j + 1) t' es → AbsV P gds m n k (⟨dst, op, type, pos, after, none⟩ :: l) t j t' ((k, sz, row) :: es)
end Go.Vg
