/- The abstract machine, part U: a slice compared with nil; an empty slice literal. -/
import Derived.Test.YtljchlkmalidnaaVgS
import Derived.Lib.SliceRun
import Derived.Laws.IdiomStrings
import Derived.Laws.BytesArg
set_option linter.all false
set_option linter.unusedVariables false
namespace Go.Vg
open Go.RowKit
variable {P : Program} {X : Nat → Prop} {w : World} {ρ : Rho}

/-- what is known if a slice is nil -/
def nilOk (m : Mem) (b : Bool) : AV → Prop
  | .lst _ l => b = true → l = []
  | .osl id ver _ len =>
    match m[id]? with
    | some ⟨v, _⟩ => v = ver → b = true → len = 0
    | none => False
  | .emp => True
  | _ => False
def isSl : AV → Bool
  | .lst _ _ => true
  | .osl _ _ _ _ => true
  | .emp => true
  | _ => false

theorem nilOk_rel {m : Mem} (hi : Inv X w ρ m) {x : AV} {v : Value} (h : R X w ρ x v) (hs : isSl x = true) : ∃ A n c, v = .slice A n c ∧ nilOk m A.isNone x := by
  cases x <;> simp only [isSl, Bool.false_eq_true] at hs
  · rename_i sz l
    obtain ⟨A, c, rfl, _, _, h3⟩ := h
    refine ⟨A, _, c, rfl, fun hb => ?_⟩
    by_cases hl : l = []
    · exact hl
    · obtain ⟨b, o, rfl, _⟩ := h3 hl; cases hb
  · rename_i id ver off len
    obtain ⟨A, c, r, rfl, hr, hv, hat⟩ := h
    have hlt : id < m.length := by rw [← hi.len]; exact (List.getElem?_eq_some_iff.1 hr).1
    refine ⟨A, _, c, rfl, ?_⟩
    show (match m[id]? with
      | some ⟨v, _⟩ => v = ver → A.isNone = true → len = 0
      | none => False)
    rw [List.getElem?_eq_getElem hlt]
    intro hver hb
    obtain ⟨e1, _⟩ := hi.at_ id r _ hr (List.getElem?_eq_getElem hlt)
    have hver' : m[id].ver = ver := hver
    obtain ⟨q1, q2, q3⟩ := hat (by rw [e1, hver'])
    by_cases hc : 0 < c
    · obtain ⟨b, _, rfl, _⟩ := q3 hc; cases hb
    · omega
  · obtain ⟨A, rfl⟩ := h
    exact ⟨A, 0, 0, rfl, trivial⟩

section
variable {gds : List (Option Nat)} {l : List Oper} {Q : S → Prop} {s : S}
/-- a slice is compared with nil -/
theorem Run.isnil {ty ty' : TypeId} {x : Operand} {dst : Option Nat} {type : TypeId} {pos : String} {after : Array Edge} {e : TypeId} (hu : uk P ty = .slice e) (hx : isSl (evo s.t x) = true)
    (k : ∀ b : Bool, nilOk s.m b (evo s.t x) → Run P gds l Q (s.put dst (.bool b))) : Run P gds (⟨dst, .binOp .eql ty x (.const (.slice none 0 0)) ty', type, pos, after, none⟩ :: l) Q s := by
  intro hg hd
  refine Run.eff (fun X r a w ρ hr => ?_) hg hd
  obtain ⟨A, n, c, hv, hn⟩ := nilOk_rel hr.inv (evo_rel hr.tmps x) hx
  unfold opwp
  rw [if_pos (by simp [Region.wanted])]
  refine ⟨fun _ _ => trivial, ?_⟩
  have hrun : (execOp a.eval ⟨dst, .binOp .eql ty x (.const (.slice none 0 0)) ty', type, pos, after, none⟩).run P w = .ok (.value (.bool A.isNone)) w := by
    have he : a.eval (.const (.slice none 0 0)) = .slice none 0 0 := rfl
    have hgd := run_eqGuard_val (P := P) (w := w) (op := .eql) (t := ty) (x := x) (y := .const (.slice none 0 0)) (a := .slice A n c) (b := .slice none 0 0) (by simp) (by simp)
    unfold execOp
    simp only [hv, he, Sem.run_bind, hgd, Result.andThen_ok, Go.Lib.run_eql_slice_nil w ty e A n c 0 0 (uk_slice hu), Sem.run_pure]
  rw [Oper.semAt_eq _ _ _ (by intro c e; cases e), hrun]
  exact ⟨s.put dst (.bool A.isNone), ρ, ⟨by rw [S.put_n], k _ hn⟩, hr.put (hd ⟨dst, .binOp .eql ty x (.const (.slice none 0 0)) ty', type, pos, after, none⟩ (by simp)) rfl, Tr.refl w ρ⟩

/-- an empty slice literal -/
theorem Run.build0 {sz : Nat} {p : Prop} {dst : Option Nat} {op : Op} {type : TypeId} {pos : String} {after : Array Edge} (h : bldA P (evo s.t) op = some (sz, [], p)) (hp : p) (k : Run P gds l Q (s.put dst .emp)) : Run P gds (⟨dst, op, type, pos, after, none⟩ :: l) Q s := by
  refine Run.yield (o := ⟨dst, op, type, pos, after, none⟩) ⟨fun c e => (by simp only at e; subst e; simp [bldA] at h), fun X w ρ a hi hr hn => ⟨fun _ => ?_, fun hw => (by simp [Region.wanted] at hw)⟩⟩ k
  obtain ⟨e, arr, vs, h1, h2, h3, h3', h4, h5, h6⟩ := bldA_run (P := P) (o := ⟨dst, op, type, pos, after, none⟩) (X := X) (w := w) (ρ := ρ) (a := a) (evo_of fun n hn => hr n (.inr hn)) h hp
  have htr : Tr w ρ { w with heap := w.heap.push (.cells arr e) } ρ := ⟨rfl, rfl, rfl, by simp, fun _ r h => ⟨r, h, Nat.le_refl _, fun _ => rfl⟩, fun b hb hlt => ⟨hb, by simp [Array.getElem?_push_lt hlt, hlt]⟩⟩
  have hk0 : Tr w [] { w with heap := w.heap.push (.cells arr e) } [] := ⟨rfl, rfl, rfl, by simp, fun _ r h => (by simp at h), fun b hb hlt => ⟨fun r hr => (by cases hr), by simp [Array.getElem?_push_lt hlt, hlt]⟩⟩
  exact .inl ⟨_, _, h1, ⟨_, rfl⟩, hi.keep hk0, htr⟩

theorem Rrow_bytes : ∀ (bs : List UInt8) (b o : Nat), Rrow X w ρ (bs.map AV.byte) 1 b o → ∀ j (hj : j < bs.length), w.cell? ⟨b, o + j, none⟩ = some (.int .u8 (bs[j].toNat : Int))
  | [], _, _, _, j, hj => by simp at hj
  | x :: bs, b, o, ⟨h1, h2⟩, j, hj => by
    cases j with
    | zero =>
      obtain ⟨_, v, e1, _, e3⟩ := h1
      rw [Nat.add_zero, e1, e3]; rfl
    | succ j =>
      have := Rrow_bytes bs b (o + 1) h2 j (by simpa using hj)
      rw [show o + (j + 1) = o + 1 + j by omega, this]; rfl

/-- '[]byte(s)' -/
theorem Run.bytes {src ds e : TypeId} {x : Operand} {dst : Option Nat} {type : TypeId} {pos : String} {after : Array Edge} {b : ByteArray} (hus : uk P src = .string) (hud : uk P ds = .slice e) (hue : uk P e = .int .u8) (hx : evo s.t x = .str b) (hlen : b.size ≤ 9223372036854775807)
    (k : Run P gds l Q ({ s with m := s.m ++ [(⟨0, .row 1 (b.data.toList.map AV.byte)⟩ : Ent)] }.put dst (.osl s.m.length 0 0 b.size))) : Run P gds (⟨dst, .convert src ds x, type, pos, after, none⟩ :: l) Q s := by
  intro hg hd
  refine Run.done (o := ⟨dst, .convert src ds x, type, pos, after, none⟩) rfl (by intro c e; cases e) (hd ⟨dst, .convert src ds x, type, pos, after, none⟩ (by simp)) (fun X a w ρ hr => ?_) k hg hd
  have hv := evo_rel hr.tmps x
  rw [hx, R_val] at hv
  have hrun := run_bytes_of_string (P := P) w src ds e b (uk_string hus) (uk_slice hud) (uk_int hue)
  have hexec : (execOp a.eval ⟨dst, .convert src ds x, type, pos, after, none⟩).run P w = .ok (.value (.slice (some ⟨w.heap.size, 0, none⟩) b.size (grownCap w b.size 0 e))) (w.drew.alloc (.cells (bytesRow b (grownCap w b.size 0 e)) e ((bytesRow b (grownCap w b.size 0 e)).size, (bytesRow b (grownCap w b.size 0 e)).size + 1))) := by
    unfold execOp
    simp only [hv, Sem.run_bind, hrun, Result.andThen_ok, Sem.run_pure]
  obtain ⟨W, hW⟩ : ∃ W, W = w.drew.alloc (.cells (bytesRow b (grownCap w b.size 0 e)) e ((bytesRow b (grownCap w b.size 0 e)).size, (bytesRow b (grownCap w b.size 0 e)).size + 1)) := ⟨_, rfl⟩
  obtain ⟨C, hC⟩ : ∃ C, C = bytesRow b (grownCap w b.size 0 e) := ⟨_, rfl⟩
  rw [← hW] at hexec
  rw [← hC] at hW
  have hge : b.size ≤ grownCap w b.size 0 e := grownCap_ge _ _ _ _
  have hle : grownCap w b.size 0 e ≤ maxLen := grownCap_le_maxLen _ _ _ _ (by simp only [maxLen]; omega)
  have hCs : C.size = grownCap w b.size 0 e := by rw [hC]; simp [bytesRow]; have : b.data.size = b.size := rfl; omega
  have hheap : W.heap = w.heap.push (.cells C e (C.size, C.size + 1)) := by rw [hW]; rfl
  have hnew : W.heap[w.heap.size]? = some (.cells C e (C.size, C.size + 1)) := by rw [hheap]; simp
  have hcell : ∀ j (hj : j < b.data.toList.length), W.cell? ⟨w.heap.size, j, none⟩ = some (.int .u8 ((b.data.toList[j]).toNat : Int)) := by
    intro j hj
    have hj' : j < b.data.size := by simpa using hj
    have : C[j]? = some (.int .u8 ((b.data.toList[j]).toNat : Int)) := by
      rw [hC]; unfold bytesRow
      rw [Array.getElem?_append_left (by simpa using hj')]
      simp [Array.getElem?_eq_getElem hj']
    simp [World.cell?, hnew, this]
  have hrow : ∀ (bs : List UInt8) (o : Nat) (ρ' : Rho), (∀ j (hj : j < bs.length), W.cell? ⟨w.heap.size, o + j, none⟩ = some (.int .u8 ((bs[j]).toNat : Int))) → Rrow X W ρ' (bs.map AV.byte) 1 w.heap.size o := by
    intro bs
    induction bs with
    | nil => intro _ _ _; trivial
    | cons y bs ih =>
      intro o ρ' h
      refine ⟨⟨rfl, _, by have := h 0 (by simp); simpa using this, rfl, rfl⟩, ih (o + 1) ρ' fun j hj => ?_⟩
      have := h (j + 1) (by simpa using hj)
      rw [show o + (j + 1) = o + 1 + j by omega] at this
      simpa using this
  obtain ⟨h1, h2⟩ := hr.inv.alloc (w' := W) (r := ⟨0, some w.heap.size, 0, C.size, 1⟩) (k := .row 1 (b.data.toList.map AV.byte)) hheap (by rw [hW]; rfl) (by rw [hW]; rfl) (by rw [hW]; rfl) rfl rfl (fun ρ' ht he => by
    refine ⟨rfl, fun h => (by cases h), fun b0 hb => ?_⟩
    cases hb
    refine ⟨⟨C, e, _, hnew, rfl, by simp, by simp⟩, ?_, hrow _ _ _ fun j hj => by simpa using hcell j hj⟩
    have : b.data.toList.length = b.size := by simp
    simp only [List.length_map, this, hCs]; omega)
  refine ⟨_, W, _, Or.inl hexec, h1, h2, some ⟨w.heap.size, 0, none⟩, grownCap w b.size 0 e, ⟨0, some w.heap.size, 0, C.size, 1⟩, rfl, by rw [← hr.inv.len]; exact last_get ρ _, Nat.le_refl _, fun _ => ⟨hge, hle, fun _ => ⟨w.heap.size, rfl, by simp, ?_⟩⟩⟩
  simp only; omega

/-- 'string(b)' -/
theorem Run.strOf {src ds e : TypeId} {x : Operand} {dst : Option Nat} {type : TypeId} {pos : String} {after : Array Edge} {bs : List UInt8} (hus : uk P src = .slice e) (hue : uk P e = .int .u8) (hud : uk P ds = .string) (hx : rowOf s.m (evo s.t x) = some (1, bs.map AV.byte)) (hs : srcOk s.m (evo s.t x))
    (k : Run P gds l Q (s.put dst (.str ⟨bs.toArray⟩))) : Run P gds (⟨dst, .convert src ds x, type, pos, after, none⟩ :: l) Q s := by
  intro hg hd
  refine Run.done (o := ⟨dst, .convert src ds x, type, pos, after, none⟩) rfl (by intro c e; cases e) (hd ⟨dst, .convert src ds x, type, pos, after, none⟩ (by simp)) (m' := s.m) (fun X a w ρ hr => ?_) k hg hd
  have hv := evo_rel hr.tmps x
  obtain ⟨A, c, vs, e1, _, _, e4, e5, e6, e7⟩ := rowOf_vals hr.inv hv hx (fun id ver off len hxe e he => by
    rw [hxe] at hs
    simp only [srcOk, he] at hs
    obtain ⟨v, k⟩ := e
    cases k with
    | row s l => exact ⟨s, l, rfl, hs⟩
    | dfr => exact hs.elim
    | lrec => exact hs.elim
    | mp => exact hs.elim
    | ext => exact hs.elim)
  have hrun : (convert src ds (a.eval x)).run P w = .ok (.string ⟨bs.toArray⟩) w := by
    rw [e1, List.length_map]
    cases A with
    | none =>
      have hbs : bs = [] := by
        cases bs with
        | nil => rfl
        | cons y bs =>
          obtain ⟨b, o, h, _⟩ := e5 (by intro h; rw [h] at e4; simp at e4)
          cases h
      subst hbs
      exact run_convert_bytes_nil w src e (uk_slice hus) (uk_int hue) _ _ ds (uk_string hud)
    | some ad =>
      refine run_convert_bytes_back w src ds e ad c bs (uk_slice hus) (uk_int hue) (uk_string hud) fun j hj => ?_
      obtain ⟨b, o, h, hc⟩ := e5 (by intro h; rw [h] at e4; simp at e4; omega)
      cases h
      have := Rrow_bytes bs b o (e7 (Tr.refl w ρ).kp hc) j hj
      have hadd : (⟨b, o, none⟩ : Addr).add j = ⟨b, o + j, none⟩ := by unfold Addr.add; split <;> simp_all
      rw [hadd]; exact this
  refine ⟨.string ⟨bs.toArray⟩, w, ρ, Or.inl ?_, Tr.refl w ρ, hr.inv, rfl⟩
  unfold execOp
  simp only [Sem.run_bind, hrun, Result.andThen_ok, Sem.run_pure]

/-- within a region: nobody writes an own slice any more -/
theorem Run.freeze {o : Oper} (n : Nat) {id ver off len sz : Nat} {l0 : List AV} {m' : Mem} {x' : AV} (h : look s.t n = .osl id ver off len) (hm : s.m[id]? = some ⟨ver, .row sz l0⟩) (hlen : off + len ≤ l0.length) (hsz : 0 < sz) (hm' : s.m.set id ⟨ver + 1, .row sz []⟩ = m') (hx' : .lst sz ((l0.drop off).take len) = x')
    (k : Run P gds (o :: l) Q { s with t := (n, x') :: s.t, m := m' }) : Run P gds (o :: l) Q s := by
  subst hm' hx'
  intro hg hd X r a w ρ hr
  obtain ⟨ρ1, hr1, t1⟩ := hr.freeze n h hm hlen hsz
  have h0 := k hg hd X r a w ρ1 hr1
  unfold opwp at h0 ⊢
  have next : ∀ (a' : Act) (w' : World), (∃ s' ρ', RunL P gds l Q s' ∧ Rel X s' a' w' ρ' ∧ Tr w ρ1 w' ρ') → ∃ s' ρ', RunL P gds l Q s' ∧ Rel X s' a' w' ρ' ∧ Tr w ρ w' ρ' :=
    fun a' w' ⟨s', ρ', e1, e2, e3⟩ => ⟨s', ρ', e1, e2, t1.trans e3⟩
  split
  · rename_i hw
    rw [if_pos hw] at h0
    exact Oper.wpIn_mono next h0
  · rename_i hw
    rw [if_neg hw] at h0
    exact next _ _ h0

end
end Go.Vg
