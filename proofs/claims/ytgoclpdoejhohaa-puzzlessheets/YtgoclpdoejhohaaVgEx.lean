/- The abstract machine: a block whose number and object are known, as an own entry. -/
import Derived.Test.YtgoclpdoejhohaaVgZ
set_option linter.all false
set_option linter.unusedVariables false
namespace Go.Vg
open Go.RowKit
variable {P : Program} {gds : List (Option Nat)} {l : List Oper} {Q : S → Prop} {s : S}

/-- new memory, all of it known -/
theorem Run.allocX {dst : Option Nat} {ty : TypeId} {type : TypeId} {pos : String} {after : Array Edge} {z : Value} (hz : ∀ w : World, (zeroValue ty).run P w = .ok z w)
    (k : ∀ b : Nat, Run P gds l Q ({ s with m := s.m ++ [(⟨0, .ext (some b) (some (.cells z.cells ty))⟩ : Ent)] }.put dst (.val (.pointer (some ⟨b, 0, none⟩))))) : Run P gds (⟨dst, .alloc ty, type, pos, after, none⟩ :: l) Q s := by
  intro hg hd
  refine Run.eff (fun X r a w ρ hr => ?_) hg hd
  unfold opwp
  rw [if_pos (by simp [Region.wanted])]
  have hnew : (w.alloc (.cells z.cells ty)).heap[w.heap.size]? = some (.cells z.cells ty) := (MapKept.heap_alloc w _).1
  obtain ⟨h1, h2⟩ := hr.inv.alloc (w' := w.alloc (.cells z.cells ty)) (o := .cells z.cells ty) (r := ⟨0, some w.heap.size, 0, 0, 0⟩) (k := .ext (some w.heap.size) (some (.cells z.cells ty))) rfl rfl rfl rfl rfl rfl (fun ρ' ht he => ⟨rfl, fun b' hb' => by cases hb'; exact hnew⟩)
  have hrel : Rel X ({ s with m := s.m ++ [(⟨0, .ext (some w.heap.size) (some (.cells z.cells ty))⟩ : Ent)] }.put dst (.val (.pointer (some ⟨w.heap.size, 0, none⟩)))) (a.put dst (.pointer (some ⟨w.heap.size, 0, none⟩))) (w.alloc (.cells z.cells ty)) (ρ ++ [⟨0, some w.heap.size, 0, 0, 0⟩]) := (hr.step h1 h2).put (hd ⟨dst, .alloc ty, type, pos, after, none⟩ (by simp)) rfl
  refine ⟨fun _ _ => trivial, ?_⟩
  rw [Oper.semAt_eq _ _ _ (by intro c e; cases e)]
  have hrun : (execOp a.eval ⟨dst, .alloc ty, type, pos, after, none⟩).run P w = .ok (.value (.pointer (some ⟨w.heap.size, 0, none⟩))) (w.alloc (.cells z.cells ty)) := by
    unfold execOp
    have : (Instr.alloc ty true (.tuple #[])).run P w = .ok (.pointer (some ⟨w.heap.size, 0, none⟩)) (w.alloc (.cells z.cells ty)) := by
      unfold Instr.alloc
      simp [hz, Result.andThen, newVar, newRow]
    simp [this]
  rw [hrun]
  exact ⟨_, _, ⟨by rw [S.put_n], k w.heap.size⟩, hrel, h1⟩
/-- nil as our own slice, in an entry that stands already -/
theorem Wp.adoptAt {r : Option Nat} {c : Code} {Q : Exit → S → Prop} {s : S} (n id sz : Nat) {ver : Nat} {k0 : Kind} (h : look s.t n = .emp) (hm : s.m[id]? = some ⟨ver, k0⟩) (k : Wp P r c Q { s with t := (n, .osl id (ver + 1) 0 0) :: s.t, m := s.m.set id ⟨ver + 1, .row sz []⟩ }) : Wp P r c Q s := by
  intro X a w ρ hr
  have hid : id < ρ.length := by rw [hr.inv.len]; exact (List.getElem?_eq_some_iff.1 hm).1
  have h0 : ρ[id]? = some ρ[id] := List.getElem?_eq_getElem hid
  obtain ⟨hv, _⟩ := hr.inv.at_ id _ _ h0 hm
  simp only at hv
  obtain ⟨t1, t2⟩ := hr.inv.renew h0 (r' := ⟨ρ[id].ver + 1, none, 0, 0, sz⟩) (w' := w) (k := .row sz []) rfl rfl rfl (Nat.le_refl _) rfl (fun _ _ _ => rfl) (fun b h => by cases h) (fun ρ' _ _ => ⟨rfl, fun _ => rfl, fun b h => by cases h⟩)
  rw [hv] at t1 t2
  have hr2 := hr.step t1 t2
  have hA := hr.tmps n
  rw [h] at hA
  obtain ⟨A, hA⟩ := hA
  have hrel : Rel X { s with t := (n, .osl id (ver + 1) 0 0) :: s.t, m := s.m.set id ⟨ver + 1, .row sz []⟩ } a w (ρ.set id ⟨ver + 1, none, 0, 0, sz⟩) := by
    refine ⟨fun j => ?_, hr2.size, hr2.inv, hr2.defers⟩
    simp only [look]
    split
    · rename_i hj
      subst hj
      exact ⟨A, 0, _, hA, by rw [List.getElem?_set_self hid], Nat.le_refl _, fun _ => ⟨Nat.le_refl _, Nat.zero_le _, fun h => absurd h (Nat.lt_irrefl 0)⟩⟩
    · exact hr2.tmps j
  exact Go.wpIn_mono (k X a w _ hrel) fun e a' w' ⟨s', ρ', q, h1, h2⟩ => ⟨s', ρ', q, h1, t1.trans h2⟩
end Go.Vg
