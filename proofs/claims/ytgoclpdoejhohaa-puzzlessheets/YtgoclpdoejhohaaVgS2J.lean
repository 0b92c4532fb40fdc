/- A part of the proof of PuzzlesSheets: contracts of functions, with plain laws that they need. -/
import Derived.Test.YtgoclpdoejhohaaVgS6J
set_option linter.all false
namespace Go.Proofs.Try
open Go.Vg Go.RowKit

/-! strings.Builder, in worlds -/
section
variable {P : Program} {w : World}
theorem setCell_self {b o : Nat} {arr : Array Value} {e : TypeId} {fr : Nat × Nat} {v : Value} (h : w.heap[b]? = some (.cells arr e fr)) : (w.setCell ⟨b, o, none⟩ v).heap[b]? = some (.cells (arr.setIfInBounds o v) e fr) := by
  simp only [World.setCell]
  rw [Array.getElem?_modify]
  simp [h]
theorem setCell_other {b o k : Nat} {v : Value} (h : k ≠ b) : (w.setCell ⟨b, o, none⟩ v).heap[k]? = w.heap[k]? := by
  simp only [World.setCell]
  rw [Array.getElem?_modify]
  simp [Ne.symm h]
theorem setCell_size {b o : Nat} {v : Value} : (w.setCell ⟨b, o, none⟩ v).heap.size = w.heap.size := by simp [World.setCell]
theorem run_storeOne {b o : Nat} {arr : Array Value} {v : Value} (h : RowAt w b arr) (ho : o < arr.size) (h1 : v.oneCell' = true) : (storeCells ⟨b, o, none⟩ [v]).run P w = .ok () (w.setCell ⟨b, o, none⟩ v) := by
  have hs : (store ⟨b, o, none⟩ v).run P w = .ok () (w.setCell ⟨b, o, none⟩ v) := by
    rw [run_store P w _ v .plain h1, h.cell o]
    simp [ho, h.frozen ho]
  have e : (⟨b, o, none⟩ : Addr).add 0 = ⟨b, o, none⟩ := by rw [Addr.add_none]; rfl
  simp [storeCells, e, hs, Result.andThen]
theorem wpList_append_eq {ops : Array Oper} {rest : List Oper} {o : Oper} {a : Act} {Q : Exit → Act → World → Prop} (hgd : o.guard = none) (s x : Operand) (t u : TypeId)
    (ho : o.op = .call { callee := .builtin .append, args := #[s, x], argTypes := #[t, u] }) (v vx v' : Value) (w' : World) (hs : a.eval s = v) (hx : a.eval x = vx)
    (hrun : (Builtin.append_ #[t, u] o.type #[v, vx]).run P w = .ok v' w') (h : wpList P ops Q rest (a.put o.dst v') w') : wpList P ops Q (o :: rest) a w := by
  refine wpList_plain hgd fun K hK => ?_
  unfold Oper.wp
  simp [execOp, ho, resolve, invoke, builtin, hs, hx, hrun, Result.andThen]
  exact hK _ _ h
end
theorem take_set_snoc {α : Type} {l bs : List α} {n : Nat} {c : α} (h : n < l.length) (hb : l.take n = bs) : (l.set n c).take (n + 1) = bs ++ [c] := by
  subst hb
  rw [List.take_add_one, List.take_set_of_le (Nat.le_refl _)]
  simp [h]
/-- the bytes bs lie in the buffer v -/
def OwnsB (w : World) (v : Value) (bs : List Value) : Prop := (v = .slice none 0 0 ∧ bs = []) ∨
  ∃ g cap cur, v = .slice (some ⟨g, 0, none⟩) bs.length cap ∧ w.heap[g]? = some (.cells cur 5 (0, 0)) ∧ bs.length ≤ cap ∧ cap ≤ maxLen ∧ cur.size = cap ∧ cur.toList.take bs.length = bs ∧ bs ≠ []

theorem copyCheck_any {b : Nat} {q v : Value} {w : World} (hbk : w.heap[b]? = some (.cells #[q, v] 55 (0, 0))) (hq : q = .pointer none ∨ q = .pointer (some ⟨b, 0, none⟩)) :
    Calls Try.prog 38 #[.pointer (some ⟨b, 0, none⟩)] w fun e w' => e = .returned (.tuple #[]) ∧ w'.heap[b]? = some (.cells #[.pointer (some ⟨b, 0, none⟩), v] 55 (0, 0)) ∧ (∀ k, k ≠ b → w'.heap[k]? = w.heap[k]?) ∧ w'.heap.size = w.heap.size ∧ w'.os = w.os ∧ w'.tape = w.tape ∧ w'.output = w.output := by
  have c0 : w.cell? ⟨b, 0, none⟩ = some q := by rw [Lib.cell_of_heap hbk]; rfl
  rcases hq with rfl | rfl
  · refine (copyCheck_fresh b w c0 (by simp [World.shape?, hbk]) (Lib.frozen_of_heap hbk 0)).mono ?_
    rintro e w' ⟨rfl, rfl⟩
    exact ⟨rfl, setCell_self hbk, fun k hk => setCell_other hk, setCell_size, rfl, rfl, rfl⟩
  · refine (copyCheck_used b w c0).mono ?_
    rintro e w' ⟨rfl, rfl⟩
    exact ⟨rfl, hbk, fun k hk => rfl, rfl, rfl, rfl, rfl⟩

/-- a byte behind the bytes, out of a literal's block -/
theorem append_one {v : Value} {bs : List Value} {c : Int} {w : World} {lit : Nat} (hown : OwnsB w v bs) (hlit : w.heap[lit]? = some (.cells #[.int .u8 c] 5)) (hne : v.ownBlock ≠ some lit) (hlen : bs.length ≤ 100000) :
    ∃ v' w2, (Builtin.append_ #[52, 52] 52 #[v, .slice (some ⟨lit, 0, none⟩) 1 1]).run Try.prog w = .ok v' w2 ∧ OwnsB w2 v' (bs ++ [.int .u8 c]) ∧ (v'.ownBlock = v.ownBlock ∨ ∃ g, v'.ownBlock = some g ∧ w.heap.size ≤ g) ∧
      (∀ k, k < w.heap.size → v.ownBlock ≠ some k → w2.heap[k]? = w.heap[k]?) ∧ w.heap.size ≤ w2.heap.size ∧ w2.os = w.os ∧ w2.tape = w.tape ∧ w2.output = w.output := by
  obtain ⟨i0, z0, hinfo, hz, hzs, hpos⟩ := elB_some elB_5
  have hsz1 : i0.size = 1 := by obtain ⟨i', h1, h2⟩ := tsz_some tsz_5; rw [hinfo] at h1; cases h1; exact h2
  have hby1 : i0.bytes = 1 := tby_some tby_5 hinfo
  have hnews : ∀ j u, [Value.int .u8 c][j]? = some u → w.cell? ⟨lit, 0 + j, none⟩ = some u := by
    intro j u hj
    rw [Nat.zero_add, Lib.cell_of_heap hlit]
    simpa using hj
  rcases hown with ⟨rfl, rfl⟩ | ⟨g, cap, cur, rfl, hg, hcap, hmax, hcs, htk, _⟩
  · rcases append_run (P := Try.prog) (w := w) (t := 52) (u := 52) (ty := 52) (e := 5) (e' := 5) Try.underlying52 Try.underlying52 hinfo hz hzs (A := none) (A' := some ⟨lit, 0, none⟩) (len := 0) (c := 0) (n := 1) (c' := 1) (olds := []) (news := [.int .u8 c]) (by simp) (by simp [hsz1]) (fun h => absurd rfl h) (fun _ => ⟨lit, 0, rfl, hnews⟩) (by rw [hby1]; decide) (by decide) with ⟨h0, _⟩ | ⟨_, cap, w2, hr, h1, h2, e1, e2, e3, rest, hrs, hh⟩
    · omega
    · have hn : w2.heap[w.heap.size]? = some (.cells (([] ++ [Value.int .u8 c]).toArray ++ rest) 5) := by rw [hh]; simp
      refine ⟨_, w2, hr, .inr ⟨w.heap.size, cap, _, rfl, hn, h1, h2, ?_, ?_, by simp⟩, .inr ⟨w.heap.size, rfl, Nat.le_refl _⟩, fun k hk _ => ?_, ?_, e1, e2, e3⟩
      · simp [hrs, hsz1]; omega
      · simp
      · rw [hh, Array.getElem?_push_lt hk, Array.getElem?_eq_getElem hk]
      · rw [hh]; simp
  · have hg0 : g < w.heap.size := (Array.getElem?_eq_some_iff.1 hg).1
    have hold : ∀ j u, bs[j]? = some u → w.cell? ⟨g, 0 + j, none⟩ = some u := by
      intro j u hj
      have hj2 := (List.getElem?_eq_some_iff.1 hj).1
      rw [← htk, List.getElem?_take_of_lt hj2] at hj
      rw [Nat.zero_add, Lib.cell_of_heap hg]
      simpa using hj
    have hrow : RowAt w g cur := ⟨5, (0, 0), hg, by simp, by simp⟩
    rcases append_run (P := Try.prog) (w := w) (t := 52) (u := 52) (ty := 52) (e := 5) (e' := 5) Try.underlying52 Try.underlying52 hinfo hz hzs (A := some ⟨g, 0, none⟩) (A' := some ⟨lit, 0, none⟩) (len := bs.length) (c := cap) (n := 1) (c' := 1) (olds := bs) (news := [.int .u8 c]) (by rw [hsz1]; omega) (by simp [hsz1]) (fun _ => ⟨g, 0, rfl, hold⟩) (fun _ => ⟨lit, 0, rfl, hnews⟩) (by rw [hby1]; omega) (by unfold maxLen; omega) with ⟨h0, hr⟩ | ⟨_, cap2, w2, hr, h1, h2, e1, e2, e3, rest, hrs, hh⟩
    · have hst := hr (w.setCell ⟨g, bs.length, none⟩ (.int .u8 c)) (by
        have := run_storeOne (P := Try.prog) hrow (o := bs.length) (v := .int .u8 c) (by omega) rfl
        rw [hsz1]
        simp only [Addr.add_none, Nat.zero_add, Nat.mul_one]
        exact this)
      refine ⟨_, _, hst, .inr ⟨g, cap, cur.setIfInBounds bs.length (.int .u8 c), by simp, setCell_self hg, by simpa using h0, hmax, by simpa using hcs, ?_, by simp⟩, .inl rfl, fun k hk hk2 => setCell_other fun e => hk2 (by rw [e]; rfl), by rw [setCell_size]; exact Nat.le_refl _, rfl, rfl, rfl⟩
      rw [Array.toList_setIfInBounds, List.length_append]
      exact take_set_snoc (by have := @Array.length_toList _ cur; omega) htk
    · have hn : w2.heap[w.heap.size]? = some (.cells ((bs ++ [Value.int .u8 c]).toArray ++ rest) 5) := by rw [hh]; simp
      refine ⟨_, w2, hr, .inr ⟨w.heap.size, cap2, _, by simp, hn, by simpa using h1, h2, ?_, ?_, by simp⟩, .inr ⟨w.heap.size, rfl, Nat.le_refl _⟩, fun k hk _ => ?_, ?_, e1, e2, e3⟩
      · simp [hrs, hsz1]; omega
      · simp only [Array.toList_append]
        exact List.take_left' rfl
      · rw [hh, Array.getElem?_push_lt hk, Array.getElem?_eq_getElem hk]
      · rw [hh]; simp
theorem OwnsB.keep {w w2 : World} {v : Value} {bs : List Value} (h : OwnsB w v bs) (hk : ∀ g, v.ownBlock = some g → w2.heap[g]? = w.heap[g]?) : OwnsB w2 v bs := by
  rcases h with h | ⟨g, cap, cur, rfl, hg, r⟩
  · exact .inl h
  · exact .inr ⟨g, cap, cur, rfl, by rw [hk g rfl]; exact hg, r⟩
theorem OwnsB.lt {w : World} {v : Value} {bs : List Value} (h : OwnsB w v bs) {g : Nat} (hg : v.ownBlock = some g) : g < w.heap.size := by
  rcases h with ⟨rfl, _⟩ | ⟨g', cap, cur, rfl, h1, r⟩
  · cases hg
  · cases hg; exact (Array.getElem?_eq_some_iff.1 h1).1
theorem OwnsB.form {w : World} {v x : Value} {bs : List Value} (h : OwnsB w v (bs ++ [x])) : ∃ g n cap, v = .slice (some ⟨g, 0, none⟩) n cap := by
  rcases h with ⟨_, h⟩ | ⟨g', cap, cur, rfl, h1, r⟩
  · simp at h
  · exact ⟨_, _, _, rfl⟩
attribute [irreducible] OwnsB

set_option maxHeartbeats 2000000 in
set_option maxRecDepth 100000 in
theorem writeByte_run {b : Nat} {q v : Value} {bs : List Value} {c : Int} {w : World} (hbk : w.heap[b]? = some (.cells #[q, v] 55 (0, 0))) (hq : q = .pointer none ∨ q = .pointer (some ⟨b, 0, none⟩)) (hown : OwnsB w v bs) (hne : v.ownBlock ≠ some b) (hlen : bs.length ≤ 100000) :
    Calls Try.prog 24 #[.pointer (some ⟨b, 0, none⟩), .int .u8 c] w fun e w' => e = .returned .nilIface ∧ ∃ v' w2, w2.heap[b]? = some (.cells #[.pointer (some ⟨b, 0, none⟩), v] 55 (0, 0)) ∧ OwnsB w2 v' (bs ++ [.int .u8 c]) ∧
      (v'.ownBlock = v.ownBlock ∨ ∃ g, v'.ownBlock = some g ∧ w.heap.size ≤ g) ∧ (∀ k, k < w.heap.size → k ≠ b → v.ownBlock ≠ some k → w2.heap[k]? = w.heap[k]?) ∧ w.heap.size ≤ w2.heap.size ∧ w2.os = w.os ∧ w2.tape = w.tape ∧ w2.output = w.output ∧ w' = w2.setCell ⟨b, 1, none⟩ v' := by
  have hltb : b < w.heap.size := (Array.getElem?_eq_some_iff.1 hbk).1
  go_enter Try.func24, Try.ntmps24
  go_wp2_with (go_at_call 38; refine (copyCheck_any hbk hq).mono ?_)
  rintro e w1 ⟨rfl, h1, hoth, hsize, hos, htp, hou⟩
  have c0 : w1.cell? ⟨b, 0, none⟩ = some (.pointer (some ⟨b, 0, none⟩)) := by rw [Lib.cell_of_heap h1]; rfl
  have c1 : w1.cell? ⟨b, 1, none⟩ = some v := by rw [Lib.cell_of_heap h1]; rfl
  have hold : OwnsB (w1.alloc (.cells #[.int .u8 c] 5)) v bs := hown.keep fun g hg => by
    have hlt := hown.lt hg
    rw [Lib.alloc_old w1 _ g (by omega)]
    exact hoth g fun e => hne (by rw [← e]; exact hg)
  obtain ⟨v', w2, hrun, ho2, hob, hk2, hs2, e1, e2, e3⟩ := append_one (c := c) hold (lit := w.heap.size) (by rw [← hsize]; exact (MapKept.heap_alloc w1 _).1) (fun e => by have := hown.lt e; omega) hlen
  obtain ⟨g', n', cap', rfl⟩ := ho2.form
  have hAs : (w1.alloc (.cells #[.int .u8 c] 5)).heap.size = w.heap.size + 1 := by
    show (w1.heap.push _).size = _
    rw [Array.size_push, hsize]
  have hb2 : w2.heap[b]? = some (.cells #[.pointer (some ⟨b, 0, none⟩), v] 55 (0, 0)) := by
    rw [hk2 b (by omega) hne, Lib.alloc_old w1 _ b (by omega)]; exact h1
  have d0 : w2.cell? ⟨b, 0, none⟩ = some (.pointer (some ⟨b, 0, none⟩)) := by rw [Lib.cell_of_heap hb2]; rfl
  have d1 : w2.cell? ⟨b, 1, none⟩ = some v := by rw [Lib.cell_of_heap hb2]; rfl
  have f1 : w2.frozen? ⟨b, 1, none⟩ = false := Lib.frozen_of_heap hb2 1
  go_wp2_with (at_builtin; refine wpList_append_eq rfl (.tmp 11) (.tmp 13) 52 52 rfl v (.slice (some ⟨w.heap.size, 0, none⟩) 1 1) _ w2 rfl rfl hrun ?_)
  go_wp2
  go_ret
  refine ⟨rfl, _, w2, hb2, ho2, ?_, ?_, by omega, e1.trans hos, e2.trans htp, e3.trans hou, rfl⟩
  · rcases hob with h | ⟨g, h, h'⟩
    · exact .inl h
    · exact .inr ⟨g, h, by omega⟩
  · intro k hk hkb hkv
    rw [hk2 k (by omega) hkv, Lib.alloc_old w1 _ k (by omega)]
    exact hoth k hkb
end Go.Proofs.Try
namespace Go.Proofs.Try
open Go.Vg Go.RowKit

theorem OwnsB.cases {w : World} {v : Value} {bs : List Value} (h : OwnsB w v bs) : (v = .slice none 0 0 ∧ bs = []) ∨
    ∃ g cap cur, v = .slice (some ⟨g, 0, none⟩) bs.length cap ∧ w.heap[g]? = some (.cells cur 5 (0, 0)) ∧ bs.length ≤ cap ∧ cap ≤ maxLen ∧ cur.size = cap ∧ cur.toList.take bs.length = bs ∧ bs ≠ [] := by
  unfold OwnsB at h
  exact h
theorem freeze_other {w : World} {g k n : Nat} (h : k ≠ g) : (w.freeze ⟨g, 0, none⟩ n).heap[k]? = w.heap[k]? := by
  unfold World.freeze
  split
  · rfl
  · simp only
    rw [Array.getElem?_modify]
    simp [Ne.symm h]
theorem freeze_rest {w : World} {a : Addr} {n : Nat} : (w.freeze a n).heap.size = w.heap.size ∧ (w.freeze a n).os = w.os ∧ (w.freeze a n).tape = w.tape ∧ (w.freeze a n).output = w.output := by
  unfold World.freeze
  split
  · exact ⟨rfl, rfl, rfl, rfl⟩
  · exact ⟨Array.size_modify, rfl, rfl, rfl⟩
set_option maxHeartbeats 2000000 in
set_option maxRecDepth 100000 in
theorem string_run {b : Nat} {q v : Value} {l : List UInt8} {w : World} (hbk : w.heap[b]? = some (.cells #[q, v] 55 (0, 0))) (hown : OwnsB w v (Lib.byteCells l)) :
    Calls Try.prog 25 #[.pointer (some ⟨b, 0, none⟩)] w fun e w' => e = .returned (.string ⟨l.toArray⟩) ∧ (∀ k, k < w.heap.size → v.ownBlock ≠ some k → w'.heap[k]? = w.heap[k]?) ∧ w.heap.size ≤ w'.heap.size ∧ w'.os = w.os ∧ w'.tape = w.tape ∧ w'.output = w.output := by
  rcases hown.cases with ⟨rfl, h0⟩ | ⟨g, cap, cur, rfl, hg, hcap, hmax, hcs, htk, hne⟩
  · have hl : l = [] := by simpa [Lib.byteCells] using h0
    subst hl
    have hUS : ∀ W : World, (Builtin.unsafeString_ #[71, 3] 9 #[.pointer none, .int .i64 0]).run Try.prog W = .ok (.string .empty) W := fun W => Lib.run_unsafeString_none W _ _ _ none
    have c1 : w.drew.cell? ⟨b, 1, none⟩ = some (.slice none 0 0) := by
      have : w.drew.heap[b]? = some (.cells #[q, .slice none 0 0] 55 (0, 0)) := hbk
      rw [Lib.cell_of_heap this]; rfl
    have hSD : (Builtin.unsafeSliceData_ #[52] 71 #[.slice none 0 0]).run Try.prog w.drew = .ok (.pointer none) w.drew := rfl
    clear hbk hown h0
    go_enter Try.func25, Try.ntmps25
    go_wp2
    go_region
    all_goals (go_wp2; go_ret; exact ⟨rfl, fun k _ _ => rfl, Nat.le_refl _, rfl, rfl, rfl⟩)
  · have hl0 : l ≠ [] := by intro h; subst h; exact hne rfl
    have hl : (Lib.byteCells l).length = l.length := Lib.byteCells_length l
    have hpos : 0 < l.length := List.length_pos_iff.2 hl0
    have c1 : w.drew.cell? ⟨b, 1, none⟩ = some (.slice (some ⟨g, 0, none⟩) l.length cap) := by
      have : w.drew.heap[b]? = some (.cells #[q, .slice (some ⟨g, 0, none⟩) (Lib.byteCells l).length cap] 55 (0, 0)) := hbk
      rw [Lib.cell_of_heap this, hl]; rfl
    have hSD : (Builtin.unsafeSliceData_ #[52] 71 #[.slice (some ⟨g, 0, none⟩) l.length cap]).run Try.prog w.drew = .ok (.pointer (some ⟨g, 0, none⟩)) w.drew :=
      Lib.run_unsafeSliceData_row _ _ _ _ _ _ (by omega)
    have hUS : (Builtin.unsafeString_ #[71, 3] 9 #[.pointer (some ⟨g, 0, none⟩), .int .i64 l.length]).run Try.prog w.drew = .ok (.string ⟨l.toArray⟩) (w.drew.freeze ⟨g, 0, none⟩ l.length) := by
      refine Lib.run_unsafeString_row w.drew 71 3 9 5 Try.underlying71 (by kernel_rfl) g cur.size (by have hg' : w.drew.heap[g]? = some (.cells cur 5 (0, 0)) := hg; simp [World.shape?, hg']) l hl0 (by omega) (by unfold maxLen at hmax; omega) ?_
      intro j x hx
      have hj := (List.getElem?_eq_some_iff.1 hx).1
      have h2 : (Lib.byteCells l)[j]? = some (.int .u8 x.toNat) := by simp [Lib.byteCells, hx]
      rw [← htk, List.getElem?_take_of_lt (by omega)] at h2
      have hg' : w.drew.heap[g]? = some (.cells cur 5 (0, 0)) := hg
      rw [Addr.add_none, Nat.zero_add, Lib.cell_of_heap hg']
      simpa using h2
    have hfin : ∀ k, k < w.heap.size → (Value.slice (some ⟨g, 0, none⟩) (Lib.byteCells l).length cap).ownBlock ≠ some k → (w.drew.freeze ⟨g, 0, none⟩ l.length).heap[k]? = w.heap[k]? := fun k _ hk => freeze_other (w := w.drew) fun e => hk (by rw [e]; rfl)
    have hsz : w.heap.size ≤ (w.drew.freeze ⟨g, 0, none⟩ l.length).heap.size := by
      rw [freeze_rest.1]; exact Nat.le_refl _
    obtain ⟨_, k1, k2, k3⟩ := freeze_rest (w := w.drew) (a := ⟨g, 0, none⟩) (n := l.length)
    clear hbk hown hcap hmax hcs htk hne hl hpos hl0 hg
    go_enter Try.func25, Try.ntmps25
    go_wp2
    go_region
    all_goals (go_wp2; go_ret; exact ⟨rfl, hfin, hsz, k1, k2, k3⟩)
end Go.Proofs.Try
namespace Go.Proofs.Try
open Go.Vg Go.RowKit

/-! strings.Builder, as two own entries -/
abbrev selfP (b : Nat) : Value := .pointer (some ⟨b, 0, none⟩)
def OwnsK (v : Value) (bs : List Value) (k : Kind) : Prop := (v = .slice none 0 0 ∧ bs = []) ∨
  ∃ g cap cur, v = .slice (some ⟨g, 0, none⟩) bs.length cap ∧ k = .ext (some g) (some (.cells cur 5 (0, 0))) ∧ bs.length ≤ cap ∧ cap ≤ maxLen ∧ cur.size = cap ∧ cur.toList.take bs.length = bs ∧ bs ≠ []
/-- the builder in block b holds the bytes bs -/
def BM (b : Nat) (bs : List Value) (m : Mem) : Prop := ∃ q v v0 v1 k1, m = [⟨v0, .ext (some b) (some (.cells #[q, v] 55 (0, 0)))⟩, ⟨v1, k1⟩] ∧ (q = .pointer none ∨ q = selfP b) ∧ OwnsK v bs k1

theorem two {α : Type} {l : List α} (h : l.length = 2) : ∃ x y, l = [x, y] := by
  match l, h with
  | [x, y], _ => exact ⟨x, y, rfl⟩

/-- what the two entries say of the world -/
theorem BM.world {X : Nat → Prop} {w : World} {ρ : Rho} {b : Nat} {bs : List Value} {q v : Value} {v0 v1 : Nat} {k1 : Kind} (hi : Inv X w ρ [⟨v0, .ext (some b) (some (.cells #[q, v] 55 (0, 0)))⟩, ⟨v1, k1⟩]) (hk : OwnsK v bs k1) :
    ∃ r0 r1, ρ = [r0, r1] ∧ r0.ver = v0 ∧ r1.ver = v1 ∧ r0.blk = some b ∧ w.heap[b]? = some (.cells #[q, v] 55 (0, 0)) ∧ OwnsB w v bs ∧ v.ownBlock ≠ some b ∧ r1.blk ≠ some b ∧ (∀ g, v.ownBlock = some g → r1.blk = some g) := by
  obtain ⟨r0, r1, rfl⟩ := two (by rw [hi.len]; rfl)
  obtain ⟨a1, a2, a3⟩ := hi.at_ 0 r0 _ rfl rfl
  obtain ⟨b1, b2⟩ := hi.at_ 1 r1 _ rfl rfl
  have hap : r1.blk ≠ some b := fun e => by have := hi.apart 0 1 r0 r1 b rfl rfl a2 e; omega
  refine ⟨r0, r1, rfl, a1, b1, a2, a3 b rfl, ?_, ?_, hap, ?_⟩
  · rcases hk with h | ⟨g, cap, cur, h1, rfl, h⟩
    · unfold OwnsB; exact .inl h
    · unfold OwnsB; exact .inr ⟨g, cap, cur, h1, b2.2 g rfl, h⟩
  · rcases hk with ⟨rfl, _⟩ | ⟨g, cap, cur, rfl, rfl, h⟩
    · intro e; cases e
    · intro e; exact hap (b2.1.trans e)
  · rcases hk with ⟨rfl, _⟩ | ⟨g, cap, cur, rfl, rfl, h⟩
    · intro g e; cases e
    · intro g' e; exact b2.1.trans e

theorem writeByte_spec {b : Nat} {bs : List Value} {m : Mem} {c : Int} (hm : BM b bs m) (hlen : bs.length ≤ 100000) :
    Go.Vg.Spec Try.prog 24 [.val (selfP b), .u8 c] m (fun x m' => x = .any ∧ BM b (bs ++ [.int .u8 c]) m') := by
  obtain ⟨q, v, v0, v1, k1, rfl, hq, hk⟩ := hm
  rintro X w ρ _ hi ⟨u1, _, rfl, h1, u2, _, rfl, h2, rfl⟩
  have e1 : u1 = selfP b := h1
  have e2 : u2 = .int .u8 c := h2
  subst e1; subst e2
  obtain ⟨r0, r1, rfl, hv0, hv1, hb0, hbk, hown, hne, hr1, hrb⟩ := BM.world hi hk
  refine (writeByte_run hbk hq hown hne hlen).mono ?_
  rintro e w' ⟨rfl, v', w2, hb2, ho2, hob, hoth, hsz, eos, etp, eou, rfl⟩
  have hlt : b < w.heap.size := (Array.getElem?_eq_some_iff.1 hbk).1
  obtain ⟨g, cap, cur, hv', hg, q1, q2, q3, q4, q5⟩ : ∃ g cap cur, v' = .slice (some ⟨g, 0, none⟩) (bs ++ [Value.int .u8 c]).length cap ∧ w2.heap[g]? = some (.cells cur 5 (0, 0)) ∧ (bs ++ [Value.int .u8 c]).length ≤ cap ∧ cap ≤ maxLen ∧ cur.size = cap ∧ cur.toList.take (bs ++ [Value.int .u8 c]).length = bs ++ [Value.int .u8 c] ∧ bs ++ [Value.int .u8 c] ≠ [] := by
    rcases ho2.cases with ⟨_, h⟩ | h
    · simp at h
    · exact h
  have hog : v'.ownBlock = some g := by rw [hv']; rfl
  have hgb : g ≠ b := by
    rintro rfl
    rcases hob with h | ⟨g', h, h'⟩
    · exact hne (by rw [← h]; exact hog)
    · rw [hog] at h; cases h; omega
  have hglt : g < w2.heap.size := (Array.getElem?_eq_some_iff.1 hg).1
  have hsz' : (w2.setCell ⟨b, 1, none⟩ v').heap.size = w2.heap.size := setCell_size
  have hbk' : (w2.setCell ⟨b, 1, none⟩ v').heap[b]? = some (.cells #[selfP b, v'] 55 (0, 0)) := setCell_self hb2
  have htr : Tr w [r0, r1] (w2.setCell ⟨b, 1, none⟩ v') [r0, ⟨r1.ver + 1, some g, 0, 0, 0⟩] := by
    refine ⟨eos, etp, eou, by rw [hsz']; exact hsz, fun i r hr => ?_, fun k hk1 hk2 => ⟨?_, ?_⟩⟩
    · match i, hr with
      | 0, hr => cases hr; exact ⟨r0, rfl, Nat.le_refl _, fun _ => rfl⟩
      | 1, hr => cases hr; exact ⟨_, rfl, by simp, fun h => by simp at h⟩
    · intro r hr
      have hkb : k ≠ b := fun e => hk1 r0 (by simp) (by rw [hb0, e])
      rcases List.mem_cons.1 hr with rfl | hr
      · exact hk1 _ (by simp)
      · have hr : r = ⟨r1.ver + 1, some g, 0, 0, 0⟩ := by simpa using hr
        subst hr
        intro e
        have e : some g = some k := e
        rcases hob with h | ⟨g', h, h'⟩
        · exact hk1 r1 (by simp) (hrb k (by rw [← h, hog]; exact e))
        · rw [hog] at h; cases h; cases e; omega
    · have hkb : k ≠ b := fun e => hk1 r0 (by simp) (by rw [hb0, e])
      rw [setCell_other hkb]
      exact hoth k hk2 hkb fun e => hk1 r1 (by simp) (hrb k e)
  refine ⟨_, .any, [⟨v0, .ext (some b) (some (.cells #[selfP b, v'] 55 (0, 0)))⟩, ⟨r1.ver + 1, .ext (some g) (some (.cells cur 5 (0, 0)))⟩], [r0, ⟨r1.ver + 1, some g, 0, 0, 0⟩], rfl, ⟨rfl, _, v', _, _, _, rfl, .inr rfl, .inr ⟨g, cap, cur, hv', rfl, q1, q2, q3, q4, q5⟩⟩, trivial, ?_, htr⟩
  refine ⟨rfl, fun i r e hr he => ?_, fun i j r r' k hr hr' hb hb' => ?_, fun i r k hr hb => ?_, fun k hx => by rw [hsz']; exact Nat.lt_of_lt_of_le (hi.out k hx) hsz, hi.gd.tr htr⟩
  · match i, hr, he with
    | 0, hr, he => cases hr; cases he; exact ⟨hv0, hb0, fun b' hb' => by cases hb'; exact hbk'⟩
    | 1, hr, he => cases hr; cases he; exact ⟨rfl, rfl, fun b' hb' => by cases hb'; rw [setCell_other hgb]; exact hg⟩
  · match i, j, hr, hr' with
    | 0, 0, _, _ => rfl
    | 1, 1, _, _ => rfl
    | 0, 1, hr, hr' =>
      cases hr; cases hr'
      rw [hb0] at hb; cases hb
      have : some g = some b := hb'
      cases this; exact absurd rfl hgb
    | 1, 0, hr, hr' =>
      cases hr; cases hr'
      rw [hb0] at hb'; cases hb'
      have : some g = some b := hb
      cases this; exact absurd rfl hgb
  · rw [hsz']
    match i, hr with
    | 0, hr =>
      cases hr
      have := hi.new 0 r0 k rfl hb
      exact ⟨Nat.lt_of_lt_of_le this.1 hsz, this.2⟩
    | 1, hr =>
      cases hr
      have e : some g = some k := hb
      cases e
      refine ⟨hglt, fun hx => ?_⟩
      rcases hob with h | ⟨g', h, h'⟩
      · exact (hi.new 1 r1 g rfl (hrb g (by rw [← h]; exact hog))).2 hx
      · rw [hog] at h; cases h
        have := hi.out _ hx; omega

theorem string_spec {b : Nat} {l : List UInt8} {m : Mem} (hm : BM b (Lib.byteCells l) m) :
    Go.Vg.Spec Try.prog 25 [.val (selfP b)] m (fun x m' => x = .str ⟨l.toArray⟩ ∧ ∃ e0 e1, m' = [e0, e1]) := by
  obtain ⟨q, v, v0, v1, k1, rfl, hq, hk⟩ := hm
  rintro X w ρ _ hi ⟨u1, _, rfl, h1, rfl⟩
  have e1 : u1 = selfP b := h1
  subst e1
  obtain ⟨r0, r1, rfl, hv0, hv1, hb0, hbk, hown, hne, hr1, hrb⟩ := BM.world hi hk
  refine (string_run hbk hown).mono ?_
  rintro e w' ⟨rfl, hoth, hsz, eos, etp, eou⟩
  obtain ⟨t1, t2⟩ := hi.renew (id := 1) (r := r1) (r' := ⟨r1.ver + 1, none, 0, 0, 0⟩) rfl (w' := w') (k := .ext none none) eos etp eou hsz rfl (fun k hk1 hk2 => hoth k hk1 fun e => hk2 (hrb k e)) (fun k hk => by cases hk) (fun ρ' _ _ => ⟨rfl, fun b' hb' => by cases hb'⟩)
  exact ⟨_, _, _, _, rfl, ⟨rfl, _, _, rfl⟩, rfl, t2, t1⟩
theorem BM.fresh (b : Nat) (v1 : Nat) (k1 : Kind) : BM b [] [⟨0, .ext (some b) (some (.cells (Value.agg #[.pointer none, .slice none 0 0]).cells 55))⟩, ⟨v1, k1⟩] :=
  ⟨.pointer none, .slice none 0 0, 0, v1, k1, rfl, .inl rfl, .inl ⟨rfl, rfl⟩⟩
end Go.Proofs.Try
set_option maxHeartbeats 8000000
namespace Go.Proofs.Try
open Go.Vg

/-! what is seen -/
def isH (b : UInt8) : Bool := decide ((b.toNat : Int) = 46)
def inB (v : Int) (n : Nat) : Bool := decide (0 ≤ v) && decide (v ≤ (n : Int) - 1)
def holeB (U L : List ByteArray) (x y : Int) (r c : Nat) : Bool := isH (bt (U.getD r .empty) c) && (inB ((r : Int) + y) L.length && inB ((c : Int) + x) (w0 L))
def seenB (L : List ByteArray) (r c : Int) : UInt8 := bt (L.getD r.toNat .empty) c.toNat
def showB (s : UInt8) : List UInt8 := if isH s = true then [] else [s]
def seeC (U L : List ByteArray) (x y : Int) (r c : Nat) : List UInt8 := if holeB U L x y r c = true then showB (seenB L ((r : Int) + y) ((c : Int) + x)) else []
def seeW (U L : List ByteArray) (x y : Int) (r k : Nat) : List UInt8 := (List.range k).flatMap (seeC U L x y r)
def seeU (U L : List ByteArray) (x y : Int) (k : Nat) : List UInt8 := (List.range k).flatMap fun r => seeW U L x y r (w0 U)
theorem seeW_snoc (U L : List ByteArray) (x y : Int) (r k : Nat) : seeW U L x y r (k + 1) = seeW U L x y r k ++ seeC U L x y r k := by
  unfold seeW; rw [List.range_succ, List.flatMap_append]; simp
theorem seeU_snoc (U L : List ByteArray) (x y : Int) (k : Nat) : seeU U L x y (k + 1) = seeU U L x y k ++ seeW U L x y k (w0 U) := by
  unfold seeU; rw [List.range_succ, List.flatMap_append]; simp
theorem seeC_len (U L : List ByteArray) (x y : Int) (r c : Nat) : (seeC U L x y r c).length ≤ 1 := by
  unfold seeC showB; split
  · split <;> simp
  · simp
theorem byteCells_snoc (l : List UInt8) (s : UInt8) : Lib.byteCells l ++ [Value.int .u8 s.toNat] = Lib.byteCells (l ++ [s]) := by simp [Lib.byteCells]
theorem see_pure (U L : List ByteArray) (x y : Int) (hU : Sh U) (hL : Sh L) (hx : -8 ≤ x ∧ x ≤ 8) (hy : -8 ≤ y ∧ y ≤ 8) :
    Pure Try.prog 12 [.strs U, .strs L, .int x, .int y] (.str ⟨(seeU U L x y U.length).toArray⟩) := by
  obtain ⟨hul, huw, hur⟩ := hU
  obtain ⟨hll, hlw, hlr⟩ := hL
  have hWn : (L.getD 0 .empty).size = w0 L := rfl
  (refine Spec.of_body Try.func12 rfl (by rw [Try.ntmps12]; simp) 0 (by simp) ?_; rw [Try.results12, Try.ntmps12]; simp only [entry, zipArgs, Nat.reduceAdd])
  repeat (first | apply Wp.seq | apply Wp.block | (apply Run.calm; exact rfl; (simp only [push_cast, seval, List.length_map] <;> (try simp (disch := omega) only [wI, wU, wC]) <;> exact rfl); (focus ((try simp only [push_cast, seval, List.length_map]) <;> exact sT))) | ((first | apply Run.nil | apply Wp.skip); dsimp only [sQ, tQ, bQ]) | (apply Wp.run; (dsimp only [List.map] <;> exact rfl); exact rfl) | (apply Wp.exit; dsimp only [sQ, tQ, bQ]; simp only [reduceIte]))
  apply Run.allocX Try.zeroValue55; intro b; dsimp only [S.put, optG]
  repeat (first | apply Wp.seq | apply Wp.block | (apply Run.next; (simp only [push_cast, seval, List.length_map] <;> (try simp (disch := omega) only [wI, wU, wC]) <;> exact rfl); (focus ((try simp only [push_cast, seval, List.length_map]) <;> exact sT))) | ((first | apply Run.nil | apply Wp.skip); dsimp only [sQ, tQ, bQ]) | (apply Wp.run; (dsimp only [List.map] <;> exact rfl); exact rfl) | (apply Wp.exit; dsimp only [sQ, tQ, bQ]; simp only [reduceIte]) | (apply Run.gtrue; (simp only [push_cast, seval, List.length_map] <;> (try simp (disch := omega) only [wI, wU, wC]) <;> exact rfl); (simp only [push_cast, seval, List.length_map] <;> (try simp (disch := omega) only [wI, wU, wC]) <;> exact rfl)) | (apply Run.gfalse (.bool false); (simp only [push_cast, seval, List.length_map] <;> (try simp (disch := omega) only [wI, wU, wC]) <;> exact rfl); dsimp only [S.put, optG]) | (apply Wp.condT; (simp only [push_cast, seval, List.length_map] <;> (try simp (disch := omega) only [wI, wU, wC]) <;> exact rfl)) | (apply Wp.condF; (simp only [push_cast, seval, List.length_map] <;> (try simp (disch := omega) only [wI, wU, wC]) <;> exact rfl)))
  (refine Wp.vacs 1 ?_; (try simp only [List.replicate_succ, List.replicate_zero, List.cons_append, List.nil_append]))
  refine Wp.loop (fun (q : Nat × Mem) => { t := [(1, .strs L), (2, .int x), (3, .int y), (9, .val (selfP b)), (14, .strs U), (15, .int U.length), (16, .int q.1)], m := q.2, n := 69 }) (fun q => q.1 ≤ U.length ∧ BM b (Lib.byteCells (seeU U L x y q.1)) q.2 ∧ (seeU U L x y q.1).length ≤ 8 * q.1) (fun q => U.length - q.1) (0, [⟨0, .ext (some b) (some (.cells (Value.agg #[.pointer none, .slice none 0 0]).cells 55))⟩, ⟨0, .row 1 []⟩]) ?_ ?_ ?_
  · (refine Le.of ?_ ?_ rfl rfl <;> (try simp only [push_cast, seval, List.length_map]) <;> (try (with_reducible rfl)))
  · exact ⟨Nat.zero_le _, BM.fresh b 0 (.row 1 []), Nat.zero_le _⟩
  · rintro ⟨r, m⟩ ⟨hr, hBM, hlen⟩
    simp only at hr hBM hlen
    have hsn := seeU_snoc U L x y r
    by_cases hrb : r < U.length
    · have e1 : decide ((r : Int) < (U.length : Int)) = true := decide_eq_true (by omega)
      have hrw := hur r hrb
      generalize hG : seeU U L x y r = G at hBM hlen hsn
      have hH : ∀ c, holeB U L x y r c = (isH (bt (U.getD r .empty) c) && (inB ((r : Int) + y) L.length && inB ((c : Int) + x) (w0 L))) := fun _ => rfl
      generalize hx0 : U.getD r .empty = x0 at hrw hH
      have hat := byteAtB x0
      generalize hW : w0 L = W at hlw hlr hWn hH
      repeat (first | apply Wp.seq | apply Wp.block | (apply Run.next; (simp only [push_cast, seval, List.length_map, e1, hx0] <;> (try simp (disch := omega) only [wI, wU, wC]) <;> exact rfl); (focus ((try simp only [push_cast, seval, List.length_map, e1, hx0]) <;> exact sT))) | ((first | apply Run.nil | apply Wp.skip); dsimp only [sQ, tQ, bQ]) | (apply Wp.run; (dsimp only [List.map] <;> exact rfl); exact rfl) | (apply Wp.exit; dsimp only [sQ, tQ, bQ]; simp only [reduceIte]) | (apply Run.gtrue; (simp only [push_cast, seval, List.length_map, e1, hx0] <;> (try simp (disch := omega) only [wI, wU, wC]) <;> exact rfl); (simp only [push_cast, seval, List.length_map, e1, hx0] <;> (try simp (disch := omega) only [wI, wU, wC]) <;> exact rfl)) | (apply Run.gfalse (.bool false); (simp only [push_cast, seval, List.length_map, e1, hx0] <;> (try simp (disch := omega) only [wI, wU, wC]) <;> exact rfl); dsimp only [S.put, optG]) | (apply Wp.condT; (simp only [push_cast, seval, List.length_map, e1, hx0] <;> (try simp (disch := omega) only [wI, wU, wC]) <;> exact rfl)) | (apply Wp.condF; (simp only [push_cast, seval, List.length_map, e1, hx0] <;> (try simp (disch := omega) only [wI, wU, wC]) <;> exact rfl)))
      refine Wp.loop (fun (q : Nat × Mem) => { t := [(1, .strs L), (2, .int x), (3, .int y), (9, .val (selfP b)), (10, .int r), (11, .str x0), (14, .strs U), (15, .int U.length), (16, .int r), (22, .int x0.size), (23, .int q.1)], m := q.2, n := 69 }) (fun q => q.1 ≤ x0.size ∧ BM b (Lib.byteCells (G ++ seeW U L x y r q.1)) q.2 ∧ (G ++ seeW U L x y r q.1).length ≤ 8 * r + q.1) (fun q => x0.size - q.1) (0, m) ?_ ?_ ?_
      · (refine Le.of ?_ ?_ rfl rfl <;> (try simp only [push_cast, seval, List.length_map, e1, hx0]) <;> (try (with_reducible rfl)))
      · exact ⟨Nat.zero_le _, by simpa [seeW] using hBM, by simpa [seeW] using hlen⟩
      · rintro ⟨c, m⟩ ⟨hc, hBM, hlen⟩
        simp only at hc hBM hlen
        by_cases hcb : c < x0.size
        · have e2 : decide ((c : Int) < (x0.size : Int)) = true := decide_eq_true (by omega)
          have hwn := seeW_snoc U L x y r c
          have hcl := seeC_len U L x y r c
          have hHc := hH c
          have hac := hat c
          generalize bt x0 c = ch at hHc hac
          have key : ∀ m', BM b (Lib.byteCells (G ++ seeW U L x y r (c + 1))) m' → ((c + 1, m') : Nat × Mem).1 ≤ x0.size ∧ BM b (Lib.byteCells (G ++ seeW U L x y r ((c + 1, m') : Nat × Mem).1)) ((c + 1, m') : Nat × Mem).2 ∧ (G ++ seeW U L x y r ((c + 1, m') : Nat × Mem).1).length ≤ 8 * r + ((c + 1, m') : Nat × Mem).1 := by
            intro m' h
            refine ⟨by simp only; omega, h, ?_⟩
            simp only
            rw [hwn, ← List.append_assoc, List.length_append]; omega
          have hno : holeB U L x y r c = false → BM b (Lib.byteCells (G ++ seeW U L x y r (c + 1))) m := by
            intro h
            rw [hwn]; unfold seeC; rw [if_neg (by rw [h]; simp), List.append_nil]; exact hBM
          have hy1 := within_pure ((r : Int) + y) 0 ((L.length : Int) - 1)
          have hx1 := within_pure ((c : Int) + x) 0 ((W : Int) - 1)
          have ein : ∀ (v : Int) (n : Nat), (decide (0 ≤ v) && decide (v ≤ (n : Int) - 1)) = inB v n := fun _ _ => rfl
          rw [ein] at hy1 hx1
          cases hch : isH ch with
          | false =>
            have h46 : decide ((ch.toNat : Int) = 46) = false := hch
            have hBM2 := hno (by rw [hHc, hch]; rfl)
            repeat (first | apply Wp.seq | apply Wp.block | (apply Run.next; (simp only [push_cast, seval, List.length_map, hWn, e1, e2, hac, h46] <;> (try simp (disch := omega) only [wI, wU, wC]) <;> exact rfl); (focus ((try simp only [push_cast, seval, List.length_map, hWn, e1, e2, hac, h46]) <;> exact sT))) | ((first | apply Run.nil | apply Wp.skip); dsimp only [sQ, tQ, bQ]) | (apply Wp.run; (dsimp only [List.map] <;> exact rfl); exact rfl) | (apply Wp.exit; dsimp only [sQ, tQ, bQ]; simp only [reduceIte]) | (apply Run.gtrue; (simp only [push_cast, seval, List.length_map, hWn, e1, e2, hac, h46] <;> (try simp (disch := omega) only [wI, wU, wC]) <;> exact rfl); (simp only [push_cast, seval, List.length_map, hWn, e1, e2, hac, h46] <;> (try simp (disch := omega) only [wI, wU, wC]) <;> exact rfl)) | (apply Run.gfalse (.bool false); (simp only [push_cast, seval, List.length_map, hWn, e1, e2, hac, h46] <;> (try simp (disch := omega) only [wI, wU, wC]) <;> exact rfl); dsimp only [S.put, optG]) | (apply Wp.condT; (simp only [push_cast, seval, List.length_map, hWn, e1, e2, hac, h46] <;> (try simp (disch := omega) only [wI, wU, wC]) <;> exact rfl)) | (apply Wp.condF; (simp only [push_cast, seval, List.length_map, hWn, e1, e2, hac, h46] <;> (try simp (disch := omega) only [wI, wU, wC]) <;> exact rfl)))
            exact ⟨(c + 1, m), by (refine Le.of ?_ ?_ rfl rfl <;> (try simp only [push_cast, seval, List.length_map, hWn, e1, e2, hac, h46]) <;> (try (with_reducible rfl))), key m hBM2, by simp only; omega⟩
          | true =>
            have h46 : decide ((ch.toNat : Int) = 46) = true := hch
            cases hiy : inB ((r : Int) + y) L.length with
            | false =>
              rw [hiy] at hy1
              have hBM2 := hno (by rw [hHc, hch, hiy]; rfl)
              repeat (first | apply Wp.seq | apply Wp.block | (apply Run.next; (simp only [push_cast, seval, List.length_map, hWn, e1, e2, hac, h46] <;> (try simp (disch := omega) only [wI, wU, wC]) <;> exact rfl); (focus ((try simp only [push_cast, seval, List.length_map, hWn, e1, e2, hac, h46]) <;> exact sT))) | ((first | apply Run.nil | apply Wp.skip); dsimp only [sQ, tQ, bQ]) | (apply Wp.run; (dsimp only [List.map] <;> exact rfl); exact rfl) | (apply Wp.exit; dsimp only [sQ, tQ, bQ]; simp only [reduceIte]) | (apply Run.gtrue; (simp only [push_cast, seval, List.length_map, hWn, e1, e2, hac, h46] <;> (try simp (disch := omega) only [wI, wU, wC]) <;> exact rfl); (simp only [push_cast, seval, List.length_map, hWn, e1, e2, hac, h46] <;> (try simp (disch := omega) only [wI, wU, wC]) <;> exact rfl)) | (apply Run.gfalse (.bool false); (simp only [push_cast, seval, List.length_map, hWn, e1, e2, hac, h46] <;> (try simp (disch := omega) only [wI, wU, wC]) <;> exact rfl); dsimp only [S.put, optG]) | (apply Wp.condT; (simp only [push_cast, seval, List.length_map, hWn, e1, e2, hac, h46] <;> (try simp (disch := omega) only [wI, wU, wC]) <;> exact rfl)) | (apply Wp.condF; (simp only [push_cast, seval, List.length_map, hWn, e1, e2, hac, h46] <;> (try simp (disch := omega) only [wI, wU, wC]) <;> exact rfl)))
              (apply Run.pureP; (simp only [push_cast, seval, List.length_map, hWn, e1, e2, hac, h46] <;> (try simp (disch := omega) only [wI, wU, wC]) <;> exact rfl); (exact (Enters.of Try.func10 rfl rfl)); (exact hy1); (focus (simp only [push_cast, seval, List.length_map, hWn, e1, e2, hac, h46] <;> first | trivial | assumption | (refine ⟨?_, ?_⟩ <;> assumption) | (simp; done))); (try dsimp only [putA, optG]))
              repeat (first | apply Wp.seq | apply Wp.block | (apply Run.next; (simp only [push_cast, seval, List.length_map, hWn, e1, e2, hac, h46] <;> (try simp (disch := omega) only [wI, wU, wC]) <;> exact rfl); (focus ((try simp only [push_cast, seval, List.length_map, hWn, e1, e2, hac, h46]) <;> exact sT))) | ((first | apply Run.nil | apply Wp.skip); dsimp only [sQ, tQ, bQ]) | (apply Wp.run; (dsimp only [List.map] <;> exact rfl); exact rfl) | (apply Wp.exit; dsimp only [sQ, tQ, bQ]; simp only [reduceIte]) | (apply Run.gtrue; (simp only [push_cast, seval, List.length_map, hWn, e1, e2, hac, h46] <;> (try simp (disch := omega) only [wI, wU, wC]) <;> exact rfl); (simp only [push_cast, seval, List.length_map, hWn, e1, e2, hac, h46] <;> (try simp (disch := omega) only [wI, wU, wC]) <;> exact rfl)) | (apply Run.gfalse (.bool false); (simp only [push_cast, seval, List.length_map, hWn, e1, e2, hac, h46] <;> (try simp (disch := omega) only [wI, wU, wC]) <;> exact rfl); dsimp only [S.put, optG]) | (apply Wp.condT; (simp only [push_cast, seval, List.length_map, hWn, e1, e2, hac, h46] <;> (try simp (disch := omega) only [wI, wU, wC]) <;> exact rfl)) | (apply Wp.condF; (simp only [push_cast, seval, List.length_map, hWn, e1, e2, hac, h46] <;> (try simp (disch := omega) only [wI, wU, wC]) <;> exact rfl)))
              exact ⟨(c + 1, m), by (refine Le.of ?_ ?_ rfl rfl <;> (try simp only [push_cast, seval, List.length_map, hWn, e1, e2, hac, h46]) <;> (try (with_reducible rfl))), key m hBM2, by simp only; omega⟩
            | true =>
              rw [hiy] at hy1
              cases hix : inB ((c : Int) + x) W with
              | false =>
                rw [hix] at hx1
                have hBM2 := hno (by rw [hHc, hch, hiy, hix]; rfl)
                repeat (first | apply Wp.seq | apply Wp.block | (apply Run.next; (simp only [push_cast, seval, List.length_map, hWn, e1, e2, hac, h46] <;> (try simp (disch := omega) only [wI, wU, wC]) <;> exact rfl); (focus ((try simp only [push_cast, seval, List.length_map, hWn, e1, e2, hac, h46]) <;> exact sT))) | ((first | apply Run.nil | apply Wp.skip); dsimp only [sQ, tQ, bQ]) | (apply Wp.run; (dsimp only [List.map] <;> exact rfl); exact rfl) | (apply Wp.exit; dsimp only [sQ, tQ, bQ]; simp only [reduceIte]) | (apply Run.gtrue; (simp only [push_cast, seval, List.length_map, hWn, e1, e2, hac, h46] <;> (try simp (disch := omega) only [wI, wU, wC]) <;> exact rfl); (simp only [push_cast, seval, List.length_map, hWn, e1, e2, hac, h46] <;> (try simp (disch := omega) only [wI, wU, wC]) <;> exact rfl)) | (apply Run.gfalse (.bool false); (simp only [push_cast, seval, List.length_map, hWn, e1, e2, hac, h46] <;> (try simp (disch := omega) only [wI, wU, wC]) <;> exact rfl); dsimp only [S.put, optG]) | (apply Wp.condT; (simp only [push_cast, seval, List.length_map, hWn, e1, e2, hac, h46] <;> (try simp (disch := omega) only [wI, wU, wC]) <;> exact rfl)) | (apply Wp.condF; (simp only [push_cast, seval, List.length_map, hWn, e1, e2, hac, h46] <;> (try simp (disch := omega) only [wI, wU, wC]) <;> exact rfl)))
                (apply Run.pureP; (simp only [push_cast, seval, List.length_map, hWn, e1, e2, hac, h46] <;> (try simp (disch := omega) only [wI, wU, wC]) <;> exact rfl); (exact (Enters.of Try.func10 rfl rfl)); (exact hy1); (focus (simp only [push_cast, seval, List.length_map, hWn, e1, e2, hac, h46] <;> first | trivial | assumption | (refine ⟨?_, ?_⟩ <;> assumption) | (simp; done))); (try dsimp only [putA, optG]))
                repeat (first | apply Wp.seq | apply Wp.block | (apply Run.next; (simp only [push_cast, seval, List.length_map, hWn, e1, e2, hac, h46] <;> (try simp (disch := omega) only [wI, wU, wC]) <;> exact rfl); (focus ((try simp only [push_cast, seval, List.length_map, hWn, e1, e2, hac, h46]) <;> exact sT))) | ((first | apply Run.nil | apply Wp.skip); dsimp only [sQ, tQ, bQ]) | (apply Wp.run; (dsimp only [List.map] <;> exact rfl); exact rfl) | (apply Wp.exit; dsimp only [sQ, tQ, bQ]; simp only [reduceIte]) | (apply Run.gtrue; (simp only [push_cast, seval, List.length_map, hWn, e1, e2, hac, h46] <;> (try simp (disch := omega) only [wI, wU, wC]) <;> exact rfl); (simp only [push_cast, seval, List.length_map, hWn, e1, e2, hac, h46] <;> (try simp (disch := omega) only [wI, wU, wC]) <;> exact rfl)) | (apply Run.gfalse (.bool false); (simp only [push_cast, seval, List.length_map, hWn, e1, e2, hac, h46] <;> (try simp (disch := omega) only [wI, wU, wC]) <;> exact rfl); dsimp only [S.put, optG]) | (apply Wp.condT; (simp only [push_cast, seval, List.length_map, hWn, e1, e2, hac, h46] <;> (try simp (disch := omega) only [wI, wU, wC]) <;> exact rfl)) | (apply Wp.condF; (simp only [push_cast, seval, List.length_map, hWn, e1, e2, hac, h46] <;> (try simp (disch := omega) only [wI, wU, wC]) <;> exact rfl)))
                (apply Run.pureP; (simp only [push_cast, seval, List.length_map, hWn, e1, e2, hac, h46] <;> (try simp (disch := omega) only [wI, wU, wC]) <;> exact rfl); (exact (Enters.of Try.func10 rfl rfl)); (exact hx1); (focus (simp only [push_cast, seval, List.length_map, hWn, e1, e2, hac, h46] <;> first | trivial | assumption | (refine ⟨?_, ?_⟩ <;> assumption) | (simp; done))); (try dsimp only [putA, optG]))
                repeat (first | apply Wp.seq | apply Wp.block | (apply Run.next; (simp only [push_cast, seval, List.length_map, hWn, e1, e2, hac, h46] <;> (try simp (disch := omega) only [wI, wU, wC]) <;> exact rfl); (focus ((try simp only [push_cast, seval, List.length_map, hWn, e1, e2, hac, h46]) <;> exact sT))) | ((first | apply Run.nil | apply Wp.skip); dsimp only [sQ, tQ, bQ]) | (apply Wp.run; (dsimp only [List.map] <;> exact rfl); exact rfl) | (apply Wp.exit; dsimp only [sQ, tQ, bQ]; simp only [reduceIte]) | (apply Run.gtrue; (simp only [push_cast, seval, List.length_map, hWn, e1, e2, hac, h46] <;> (try simp (disch := omega) only [wI, wU, wC]) <;> exact rfl); (simp only [push_cast, seval, List.length_map, hWn, e1, e2, hac, h46] <;> (try simp (disch := omega) only [wI, wU, wC]) <;> exact rfl)) | (apply Run.gfalse (.bool false); (simp only [push_cast, seval, List.length_map, hWn, e1, e2, hac, h46] <;> (try simp (disch := omega) only [wI, wU, wC]) <;> exact rfl); dsimp only [S.put, optG]) | (apply Wp.condT; (simp only [push_cast, seval, List.length_map, hWn, e1, e2, hac, h46] <;> (try simp (disch := omega) only [wI, wU, wC]) <;> exact rfl)) | (apply Wp.condF; (simp only [push_cast, seval, List.length_map, hWn, e1, e2, hac, h46] <;> (try simp (disch := omega) only [wI, wU, wC]) <;> exact rfl)))
                exact ⟨(c + 1, m), by (refine Le.of ?_ ?_ rfl rfl <;> (try simp only [push_cast, seval, List.length_map, hWn, e1, e2, hac, h46]) <;> (try (with_reducible rfl))), key m hBM2, by simp only; omega⟩
              | true =>
                rw [hix] at hx1
                have hyes : holeB U L x y r c = true := by rw [hHc, hch, hiy, hix]; rfl
                have hsee : seeC U L x y r c = showB (seenB L ((r : Int) + y) ((c : Int) + x)) := by unfold seeC; rw [if_pos hyes]
                simp only [inB, Bool.and_eq_true, decide_eq_true_eq] at hiy hix
                obtain ⟨j, hj⟩ : ∃ j : Nat, (r : Int) + y = (j : Int) := ⟨((r : Int) + y).toNat, by omega⟩
                obtain ⟨i, hi⟩ : ∃ i : Nat, (c : Int) + x = (i : Int) := ⟨((c : Int) + x).toNat, by omega⟩
                rw [hj] at hiy hsee hy1
                rw [hi] at hix hsee hx1
                have hjL := hlr j (by omega)
                have hst : seenB L (j : Int) (i : Int) = bt (L.getD j .empty) i := by unfold seenB; rw [Int.toNat_natCast, Int.toNat_natCast]
                rw [hst] at hsee
                rw [hsee] at hwn
                generalize hLj : L.getD j .empty = lj at hwn hjL
                have hai := byteAtB lj i
                generalize bt lj i = s at hwn hai
                have hjlt : j < L.length := by omega
                have hilt : i < lj.size := by omega
                cases hs : isH s with
                | true =>
                  have hs46 : decide ((s.toNat : Int) = 46) = true := hs
                  have hBM2 : BM b (Lib.byteCells (G ++ seeW U L x y r (c + 1))) m := by
                    rw [hwn]; unfold showB; rw [if_pos hs, List.append_nil]; exact hBM
                  repeat (first | apply Wp.seq | apply Wp.block | (apply Run.next; (simp only [push_cast, seval, List.length_map, hWn, e1, e2, hac, h46, hj, hi, hLj, hai, hs46] <;> (try simp (disch := omega) only [wI, wU, wC]) <;> exact rfl); (focus ((try simp only [push_cast, seval, List.length_map, hWn, e1, e2, hac, h46, hj, hi, hLj, hai, hs46]) <;> exact sT))) | ((first | apply Run.nil | apply Wp.skip); dsimp only [sQ, tQ, bQ]) | (apply Wp.run; (dsimp only [List.map] <;> exact rfl); exact rfl) | (apply Wp.exit; dsimp only [sQ, tQ, bQ]; simp only [reduceIte]) | (apply Run.gtrue; (simp only [push_cast, seval, List.length_map, hWn, e1, e2, hac, h46, hj, hi, hLj, hai, hs46] <;> (try simp (disch := omega) only [wI, wU, wC]) <;> exact rfl); (simp only [push_cast, seval, List.length_map, hWn, e1, e2, hac, h46, hj, hi, hLj, hai, hs46] <;> (try simp (disch := omega) only [wI, wU, wC]) <;> exact rfl)) | (apply Run.gfalse (.bool false); (simp only [push_cast, seval, List.length_map, hWn, e1, e2, hac, h46, hj, hi, hLj, hai, hs46] <;> (try simp (disch := omega) only [wI, wU, wC]) <;> exact rfl); dsimp only [S.put, optG]) | (apply Wp.condT; (simp only [push_cast, seval, List.length_map, hWn, e1, e2, hac, h46, hj, hi, hLj, hai, hs46] <;> (try simp (disch := omega) only [wI, wU, wC]) <;> exact rfl)) | (apply Wp.condF; (simp only [push_cast, seval, List.length_map, hWn, e1, e2, hac, h46, hj, hi, hLj, hai, hs46] <;> (try simp (disch := omega) only [wI, wU, wC]) <;> exact rfl)))
                  (apply Run.pureP; (simp only [push_cast, seval, List.length_map, hWn, e1, e2, hac, h46, hj, hi, hLj, hai, hs46] <;> (try simp (disch := omega) only [wI, wU, wC]) <;> exact rfl); (exact (Enters.of Try.func10 rfl rfl)); (exact hy1); (focus (simp only [push_cast, seval, List.length_map, hWn, e1, e2, hac, h46, hj, hi, hLj, hai, hs46] <;> first | trivial | assumption | (refine ⟨?_, ?_⟩ <;> assumption) | (simp; done))); (try dsimp only [putA, optG]))
                  repeat (first | apply Wp.seq | apply Wp.block | (apply Run.next; (simp only [push_cast, seval, List.length_map, hWn, e1, e2, hac, h46, hj, hi, hLj, hai, hs46] <;> (try simp (disch := omega) only [wI, wU, wC]) <;> exact rfl); (focus ((try simp only [push_cast, seval, List.length_map, hWn, e1, e2, hac, h46, hj, hi, hLj, hai, hs46]) <;> exact sT))) | ((first | apply Run.nil | apply Wp.skip); dsimp only [sQ, tQ, bQ]) | (apply Wp.run; (dsimp only [List.map] <;> exact rfl); exact rfl) | (apply Wp.exit; dsimp only [sQ, tQ, bQ]; simp only [reduceIte]) | (apply Run.gtrue; (simp only [push_cast, seval, List.length_map, hWn, e1, e2, hac, h46, hj, hi, hLj, hai, hs46] <;> (try simp (disch := omega) only [wI, wU, wC]) <;> exact rfl); (simp only [push_cast, seval, List.length_map, hWn, e1, e2, hac, h46, hj, hi, hLj, hai, hs46] <;> (try simp (disch := omega) only [wI, wU, wC]) <;> exact rfl)) | (apply Run.gfalse (.bool false); (simp only [push_cast, seval, List.length_map, hWn, e1, e2, hac, h46, hj, hi, hLj, hai, hs46] <;> (try simp (disch := omega) only [wI, wU, wC]) <;> exact rfl); dsimp only [S.put, optG]) | (apply Wp.condT; (simp only [push_cast, seval, List.length_map, hWn, e1, e2, hac, h46, hj, hi, hLj, hai, hs46] <;> (try simp (disch := omega) only [wI, wU, wC]) <;> exact rfl)) | (apply Wp.condF; (simp only [push_cast, seval, List.length_map, hWn, e1, e2, hac, h46, hj, hi, hLj, hai, hs46] <;> (try simp (disch := omega) only [wI, wU, wC]) <;> exact rfl)))
                  (apply Run.pureP; (simp only [push_cast, seval, List.length_map, hWn, e1, e2, hac, h46, hj, hi, hLj, hai, hs46] <;> (try simp (disch := omega) only [wI, wU, wC]) <;> exact rfl); (exact (Enters.of Try.func10 rfl rfl)); (exact hx1); (focus (simp only [push_cast, seval, List.length_map, hWn, e1, e2, hac, h46, hj, hi, hLj, hai, hs46] <;> first | trivial | assumption | (refine ⟨?_, ?_⟩ <;> assumption) | (simp; done))); (try dsimp only [putA, optG]))
                  repeat (first | apply Wp.seq | apply Wp.block | (apply Run.next; (simp only [push_cast, seval, List.length_map, hWn, e1, e2, hac, h46, hj, hi, hLj, hai, hs46] <;> (try simp (disch := omega) only [wI, wU, wC]) <;> exact rfl); (focus ((try simp only [push_cast, seval, List.length_map, hWn, e1, e2, hac, h46, hj, hi, hLj, hai, hs46]) <;> exact sT))) | ((first | apply Run.nil | apply Wp.skip); dsimp only [sQ, tQ, bQ]) | (apply Wp.run; (dsimp only [List.map] <;> exact rfl); exact rfl) | (apply Wp.exit; dsimp only [sQ, tQ, bQ]; simp only [reduceIte]) | (apply Run.gtrue; (simp only [push_cast, seval, List.length_map, hWn, e1, e2, hac, h46, hj, hi, hLj, hai, hs46] <;> (try simp (disch := omega) only [wI, wU, wC]) <;> exact rfl); (simp only [push_cast, seval, List.length_map, hWn, e1, e2, hac, h46, hj, hi, hLj, hai, hs46] <;> (try simp (disch := omega) only [wI, wU, wC]) <;> exact rfl)) | (apply Run.gfalse (.bool false); (simp only [push_cast, seval, List.length_map, hWn, e1, e2, hac, h46, hj, hi, hLj, hai, hs46] <;> (try simp (disch := omega) only [wI, wU, wC]) <;> exact rfl); dsimp only [S.put, optG]) | (apply Wp.condT; (simp only [push_cast, seval, List.length_map, hWn, e1, e2, hac, h46, hj, hi, hLj, hai, hs46] <;> (try simp (disch := omega) only [wI, wU, wC]) <;> exact rfl)) | (apply Wp.condF; (simp only [push_cast, seval, List.length_map, hWn, e1, e2, hac, h46, hj, hi, hLj, hai, hs46] <;> (try simp (disch := omega) only [wI, wU, wC]) <;> exact rfl)))
                  exact ⟨(c + 1, m), by (refine Le.of ?_ ?_ rfl rfl <;> (try simp only [push_cast, seval, List.length_map, hWn, e1, e2, hac, h46, hj, hi, hLj, hai, hs46]) <;> (try (with_reducible rfl))), key m hBM2, by simp only; omega⟩
                | false =>
                  have hs46 : decide ((s.toNat : Int) = 46) = false := hs
                  repeat (first | apply Wp.seq | apply Wp.block | (apply Run.next; (simp only [push_cast, seval, List.length_map, hWn, e1, e2, hac, h46, hj, hi, hLj, hai, hs46] <;> (try simp (disch := omega) only [wI, wU, wC]) <;> exact rfl); (focus ((try simp only [push_cast, seval, List.length_map, hWn, e1, e2, hac, h46, hj, hi, hLj, hai, hs46]) <;> exact sT))) | ((first | apply Run.nil | apply Wp.skip); dsimp only [sQ, tQ, bQ]) | (apply Wp.run; (dsimp only [List.map] <;> exact rfl); exact rfl) | (apply Wp.exit; dsimp only [sQ, tQ, bQ]; simp only [reduceIte]) | (apply Run.gtrue; (simp only [push_cast, seval, List.length_map, hWn, e1, e2, hac, h46, hj, hi, hLj, hai, hs46] <;> (try simp (disch := omega) only [wI, wU, wC]) <;> exact rfl); (simp only [push_cast, seval, List.length_map, hWn, e1, e2, hac, h46, hj, hi, hLj, hai, hs46] <;> (try simp (disch := omega) only [wI, wU, wC]) <;> exact rfl)) | (apply Run.gfalse (.bool false); (simp only [push_cast, seval, List.length_map, hWn, e1, e2, hac, h46, hj, hi, hLj, hai, hs46] <;> (try simp (disch := omega) only [wI, wU, wC]) <;> exact rfl); dsimp only [S.put, optG]) | (apply Wp.condT; (simp only [push_cast, seval, List.length_map, hWn, e1, e2, hac, h46, hj, hi, hLj, hai, hs46] <;> (try simp (disch := omega) only [wI, wU, wC]) <;> exact rfl)) | (apply Wp.condF; (simp only [push_cast, seval, List.length_map, hWn, e1, e2, hac, h46, hj, hi, hLj, hai, hs46] <;> (try simp (disch := omega) only [wI, wU, wC]) <;> exact rfl)))
                  (apply Run.pureP; (simp only [push_cast, seval, List.length_map, hWn, e1, e2, hac, h46, hj, hi, hLj, hai, hs46] <;> (try simp (disch := omega) only [wI, wU, wC]) <;> exact rfl); (exact (Enters.of Try.func10 rfl rfl)); (exact hy1); (focus (simp only [push_cast, seval, List.length_map, hWn, e1, e2, hac, h46, hj, hi, hLj, hai, hs46] <;> first | trivial | assumption | (refine ⟨?_, ?_⟩ <;> assumption) | (simp; done))); (try dsimp only [putA, optG]))
                  repeat (first | apply Wp.seq | apply Wp.block | (apply Run.next; (simp only [push_cast, seval, List.length_map, hWn, e1, e2, hac, h46, hj, hi, hLj, hai, hs46] <;> (try simp (disch := omega) only [wI, wU, wC]) <;> exact rfl); (focus ((try simp only [push_cast, seval, List.length_map, hWn, e1, e2, hac, h46, hj, hi, hLj, hai, hs46]) <;> exact sT))) | ((first | apply Run.nil | apply Wp.skip); dsimp only [sQ, tQ, bQ]) | (apply Wp.run; (dsimp only [List.map] <;> exact rfl); exact rfl) | (apply Wp.exit; dsimp only [sQ, tQ, bQ]; simp only [reduceIte]) | (apply Run.gtrue; (simp only [push_cast, seval, List.length_map, hWn, e1, e2, hac, h46, hj, hi, hLj, hai, hs46] <;> (try simp (disch := omega) only [wI, wU, wC]) <;> exact rfl); (simp only [push_cast, seval, List.length_map, hWn, e1, e2, hac, h46, hj, hi, hLj, hai, hs46] <;> (try simp (disch := omega) only [wI, wU, wC]) <;> exact rfl)) | (apply Run.gfalse (.bool false); (simp only [push_cast, seval, List.length_map, hWn, e1, e2, hac, h46, hj, hi, hLj, hai, hs46] <;> (try simp (disch := omega) only [wI, wU, wC]) <;> exact rfl); dsimp only [S.put, optG]) | (apply Wp.condT; (simp only [push_cast, seval, List.length_map, hWn, e1, e2, hac, h46, hj, hi, hLj, hai, hs46] <;> (try simp (disch := omega) only [wI, wU, wC]) <;> exact rfl)) | (apply Wp.condF; (simp only [push_cast, seval, List.length_map, hWn, e1, e2, hac, h46, hj, hi, hLj, hai, hs46] <;> (try simp (disch := omega) only [wI, wU, wC]) <;> exact rfl)))
                  (apply Run.pureP; (simp only [push_cast, seval, List.length_map, hWn, e1, e2, hac, h46, hj, hi, hLj, hai, hs46] <;> (try simp (disch := omega) only [wI, wU, wC]) <;> exact rfl); (exact (Enters.of Try.func10 rfl rfl)); (exact hx1); (focus (simp only [push_cast, seval, List.length_map, hWn, e1, e2, hac, h46, hj, hi, hLj, hai, hs46] <;> first | trivial | assumption | (refine ⟨?_, ?_⟩ <;> assumption) | (simp; done))); (try dsimp only [putA, optG]))
                  repeat (first | apply Wp.seq | apply Wp.block | (apply Run.next; (simp only [push_cast, seval, List.length_map, hWn, e1, e2, hac, h46, hj, hi, hLj, hai, hs46] <;> (try simp (disch := omega) only [wI, wU, wC]) <;> exact rfl); (focus ((try simp only [push_cast, seval, List.length_map, hWn, e1, e2, hac, h46, hj, hi, hLj, hai, hs46]) <;> exact sT))) | ((first | apply Run.nil | apply Wp.skip); dsimp only [sQ, tQ, bQ]) | (apply Wp.run; (dsimp only [List.map] <;> exact rfl); exact rfl) | (apply Wp.exit; dsimp only [sQ, tQ, bQ]; simp only [reduceIte]) | (apply Run.gtrue; (simp only [push_cast, seval, List.length_map, hWn, e1, e2, hac, h46, hj, hi, hLj, hai, hs46] <;> (try simp (disch := omega) only [wI, wU, wC]) <;> exact rfl); (simp only [push_cast, seval, List.length_map, hWn, e1, e2, hac, h46, hj, hi, hLj, hai, hs46] <;> (try simp (disch := omega) only [wI, wU, wC]) <;> exact rfl)) | (apply Run.gfalse (.bool false); (simp only [push_cast, seval, List.length_map, hWn, e1, e2, hac, h46, hj, hi, hLj, hai, hs46] <;> (try simp (disch := omega) only [wI, wU, wC]) <;> exact rfl); dsimp only [S.put, optG]) | (apply Wp.condT; (simp only [push_cast, seval, List.length_map, hWn, e1, e2, hac, h46, hj, hi, hLj, hai, hs46] <;> (try simp (disch := omega) only [wI, wU, wC]) <;> exact rfl)) | (apply Wp.condF; (simp only [push_cast, seval, List.length_map, hWn, e1, e2, hac, h46, hj, hi, hLj, hai, hs46] <;> (try simp (disch := omega) only [wI, wU, wC]) <;> exact rfl)))
                  (apply Run.spec (he := Enters.of Try.func24 rfl rfl); exact rfl; (simp only [push_cast, seval, List.length_map, hWn, e1, e2, hac, h46, hj, hi, hLj, hai, hs46] <;> first | exact rfl | assumption); (simp only [push_cast, seval, List.length_map, hWn, e1, e2, hac, h46, hj, hi, hLj, hai, hs46] <;> (try simp (disch := omega) only [wI, wU, wC]) <;> exact rfl); (exact writeByte_spec (c := (s.toNat : Int)) hBM (by rw [Lib.byteCells_length]; omega)); (rintro _ m' ⟨rfl, hBM'⟩; dsimp only [S.put, optG]))
                  rw [byteCells_snoc] at hBM'
                  have hBM2 : BM b (Lib.byteCells (G ++ seeW U L x y r (c + 1))) m' := by
                    rw [hwn]; unfold showB; rw [if_neg (by rw [hs]; simp), ← List.append_assoc]; exact hBM'
                  repeat (first | apply Wp.seq | apply Wp.block | (apply Run.next; (simp only [push_cast, seval, List.length_map, hWn, e1, e2, hac, h46, hj, hi, hLj, hai, hs46] <;> (try simp (disch := omega) only [wI, wU, wC]) <;> exact rfl); (focus ((try simp only [push_cast, seval, List.length_map, hWn, e1, e2, hac, h46, hj, hi, hLj, hai, hs46]) <;> exact sT))) | ((first | apply Run.nil | apply Wp.skip); dsimp only [sQ, tQ, bQ]) | (apply Wp.run; (dsimp only [List.map] <;> exact rfl); exact rfl) | (apply Wp.exit; dsimp only [sQ, tQ, bQ]; simp only [reduceIte]) | (apply Run.gtrue; (simp only [push_cast, seval, List.length_map, hWn, e1, e2, hac, h46, hj, hi, hLj, hai, hs46] <;> (try simp (disch := omega) only [wI, wU, wC]) <;> exact rfl); (simp only [push_cast, seval, List.length_map, hWn, e1, e2, hac, h46, hj, hi, hLj, hai, hs46] <;> (try simp (disch := omega) only [wI, wU, wC]) <;> exact rfl)) | (apply Run.gfalse (.bool false); (simp only [push_cast, seval, List.length_map, hWn, e1, e2, hac, h46, hj, hi, hLj, hai, hs46] <;> (try simp (disch := omega) only [wI, wU, wC]) <;> exact rfl); dsimp only [S.put, optG]) | (apply Wp.condT; (simp only [push_cast, seval, List.length_map, hWn, e1, e2, hac, h46, hj, hi, hLj, hai, hs46] <;> (try simp (disch := omega) only [wI, wU, wC]) <;> exact rfl)) | (apply Wp.condF; (simp only [push_cast, seval, List.length_map, hWn, e1, e2, hac, h46, hj, hi, hLj, hai, hs46] <;> (try simp (disch := omega) only [wI, wU, wC]) <;> exact rfl)))
                  exact ⟨(c + 1, m'), by (refine Le.of ?_ ?_ rfl rfl <;> (try simp only [push_cast, seval, List.length_map, hWn, e1, e2, hac, h46, hj, hi, hLj, hai, hs46]) <;> (try (with_reducible rfl))), key m' hBM2, by simp only; omega⟩
        · have e2 : decide ((c : Int) < (x0.size : Int)) = false := decide_eq_false (by omega)
          repeat (first | apply Wp.seq | apply Wp.block | (apply Run.next; (simp only [push_cast, seval, List.length_map, e1, e2] <;> (try simp (disch := omega) only [wI, wU, wC]) <;> exact rfl); (focus ((try simp only [push_cast, seval, List.length_map, e1, e2]) <;> exact sT))) | ((first | apply Run.nil | apply Wp.skip); dsimp only [sQ, tQ, bQ]) | (apply Wp.run; (dsimp only [List.map] <;> exact rfl); exact rfl) | (apply Wp.exit; dsimp only [sQ, tQ, bQ]; simp only [reduceIte]) | (apply Run.gtrue; (simp only [push_cast, seval, List.length_map, e1, e2] <;> (try simp (disch := omega) only [wI, wU, wC]) <;> exact rfl); (simp only [push_cast, seval, List.length_map, e1, e2] <;> (try simp (disch := omega) only [wI, wU, wC]) <;> exact rfl)) | (apply Run.gfalse (.bool false); (simp only [push_cast, seval, List.length_map, e1, e2] <;> (try simp (disch := omega) only [wI, wU, wC]) <;> exact rfl); dsimp only [S.put, optG]) | (apply Wp.condT; (simp only [push_cast, seval, List.length_map, e1, e2] <;> (try simp (disch := omega) only [wI, wU, wC]) <;> exact rfl)) | (apply Wp.condF; (simp only [push_cast, seval, List.length_map, e1, e2] <;> (try simp (disch := omega) only [wI, wU, wC]) <;> exact rfl)))
          obtain rfl : c = x0.size := by omega
          rw [hrw] at hBM hlen
          refine ⟨(r + 1, m), ?_, ⟨by simp only; omega, ?_, ?_⟩, by simp only; omega⟩
          · (refine Le.of ?_ ?_ rfl rfl <;> (try simp only [push_cast, seval, List.length_map, e1, e2]) <;> (try (with_reducible rfl)))
          · simp only; rw [hsn]; exact hBM
          · simp only; rw [hsn]; omega
    · obtain rfl : r = U.length := by omega
      have e1 : decide ((U.length : Int) < (U.length : Int)) = false := decide_eq_false (by omega)
      repeat (first | apply Wp.seq | apply Wp.block | (apply Run.next; (simp only [push_cast, seval, List.length_map, e1] <;> (try simp (disch := omega) only [wI, wU, wC]) <;> exact rfl); (focus ((try simp only [push_cast, seval, List.length_map, e1]) <;> exact sT))) | ((first | apply Run.nil | apply Wp.skip); dsimp only [sQ, tQ, bQ]) | (apply Wp.run; (dsimp only [List.map] <;> exact rfl); exact rfl) | (apply Wp.exit; dsimp only [sQ, tQ, bQ]; simp only [reduceIte]) | (apply Run.gtrue; (simp only [push_cast, seval, List.length_map, e1] <;> (try simp (disch := omega) only [wI, wU, wC]) <;> exact rfl); (simp only [push_cast, seval, List.length_map, e1] <;> (try simp (disch := omega) only [wI, wU, wC]) <;> exact rfl)) | (apply Run.gfalse (.bool false); (simp only [push_cast, seval, List.length_map, e1] <;> (try simp (disch := omega) only [wI, wU, wC]) <;> exact rfl); dsimp only [S.put, optG]) | (apply Wp.condT; (simp only [push_cast, seval, List.length_map, e1] <;> (try simp (disch := omega) only [wI, wU, wC]) <;> exact rfl)) | (apply Wp.condF; (simp only [push_cast, seval, List.length_map, e1] <;> (try simp (disch := omega) only [wI, wU, wC]) <;> exact rfl)))
      (apply Run.spec (he := Enters.of Try.func25 rfl rfl); exact rfl; (simp only [push_cast, seval, List.length_map, e1] <;> first | exact rfl | assumption); (simp only [push_cast, seval, List.length_map, e1] <;> (try simp (disch := omega) only [wI, wU, wC]) <;> exact rfl); (exact string_spec hBM); (rintro _ m' ⟨rfl, a0, a1, rfl⟩; dsimp only [S.put, optG]))
      repeat (first | apply Wp.seq | apply Wp.block | (apply Run.next; (simp only [push_cast, seval, List.length_map, e1] <;> (try simp (disch := omega) only [wI, wU, wC]) <;> exact rfl); (focus ((try simp only [push_cast, seval, List.length_map, e1]) <;> exact sT))) | ((first | apply Run.nil | apply Wp.skip); dsimp only [sQ, tQ, bQ]) | (apply Wp.run; (dsimp only [List.map] <;> exact rfl); exact rfl) | (apply Wp.exit; dsimp only [sQ, tQ, bQ]; simp only [reduceIte]) | (apply Run.gtrue; (simp only [push_cast, seval, List.length_map, e1] <;> (try simp (disch := omega) only [wI, wU, wC]) <;> exact rfl); (simp only [push_cast, seval, List.length_map, e1] <;> (try simp (disch := omega) only [wI, wU, wC]) <;> exact rfl)) | (apply Run.gfalse (.bool false); (simp only [push_cast, seval, List.length_map, e1] <;> (try simp (disch := omega) only [wI, wU, wC]) <;> exact rfl); dsimp only [S.put, optG]) | (apply Wp.condT; (simp only [push_cast, seval, List.length_map, e1] <;> (try simp (disch := omega) only [wI, wU, wC]) <;> exact rfl)) | (apply Wp.condF; (simp only [push_cast, seval, List.length_map, e1] <;> (try simp (disch := omega) only [wI, wU, wC]) <;> exact rfl)))
      (apply Wp.ret; (try dsimp only [sQ, tQ, bQ]); apply leave0; exact rfl; (simp only [push_cast, seval, List.length_map, e1] <;> (try simp (disch := omega) only [wI, wU, wC]) <;> exact rfl); all_goals (try simp only [push_cast, seval, List.length_map, e1]); (try rfl))
end Go.Proofs.Try
