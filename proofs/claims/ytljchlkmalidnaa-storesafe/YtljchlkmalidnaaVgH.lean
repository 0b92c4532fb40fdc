/- The abstract machine, part H: code; contracts; calls of functions that turn nothing. -/
import Derived.Test.YtljchlkmalidnaaVgG
set_option linter.all false
set_option linter.unusedVariables false
namespace Go.Vg
open Go.RowKit
variable {P : Program} {X : Nat → Prop} {w : World} {ρ : Rho}

def Wp (P : Program) (r : Option Nat) (c : Code) (Q : Exit → S → Prop) (s : S) : Prop :=
  ∀ (X : Nat → Prop) (a : Act) (w : World) (ρ : Rho), Rel X s a w ρ → c.wpIn (fence r) 0 P (fun e a' w' => ∃ s' ρ', Q e s' ∧ Rel X s' a' w' ρ' ∧ Tr w ρ w' ρ') a w

def tQ (next : S → Prop) (Q : Exit → S → Prop) : Exit → S → Prop
  | .normal, s => next s
  | e, s => Q e s
def bQ (id : Nat) (Q : Exit → S → Prop) : Exit → S → Prop
  | .exit id', s => if id' = id then Q .normal s else Q (.exit id') s
  | e, s => Q e s

/-- on with y, if x goes through -/
def sQ (P : Program) (r : Option Nat) (y : Code) (Q : Exit → S → Prop) (e : Exit) (s : S) : Prop := tQ (Wp P r y Q) Q e s

section
variable {r : Option Nat} {Q : Exit → S → Prop} {s : S}

theorem Wp.mono {c : Code} {Q' : Exit → S → Prop} (h : Wp P r c Q s) (hq : ∀ e s, Q e s → Q' e s) : Wp P r c Q' s :=
  fun X a w ρ hr => Go.wpIn_mono (h X a w ρ hr) fun e a w ⟨s', ρ', q, h1, h2⟩ => ⟨s', ρ', hq e s' q, h1, h2⟩

theorem Wp.skip (h : Q .normal s) : Wp P r .skip Q s := fun _ _ w ρ hr => wpIn_skip ⟨s, ρ, h, hr, Tr.refl w ρ⟩
theorem Wp.exit {id : Nat} (h : Q (.exit id) s) : Wp P r (.exit id) Q s := fun _ _ w ρ hr => wpIn_exit ⟨s, ρ, h, hr, Tr.refl w ρ⟩
theorem Wp.ret (h : Q .ret s) : Wp P r .ret Q s := fun _ _ w ρ hr => wpIn_ret ⟨s, ρ, h, hr, Tr.refl w ρ⟩

theorem Wp.seq {x y : Code} (h : Wp P r x (sQ P r y Q) s) : Wp P r (.seq x y) Q s := by
  intro X a w ρ hr
  replace h : Wp P r x (tQ (Wp P r y Q) Q) s := h
  refine wpIn_seq (Go.wpIn_mono (h X a w ρ hr) ?_)
  rintro e a' w' ⟨s', ρ', q, h1, h2⟩
  cases e with
  | normal => exact Go.wpIn_mono (q X a' w' ρ' h1) fun e a w ⟨s2, ρ2, q2, k1, k2⟩ => ⟨s2, ρ2, q2, k1, h2.trans k2⟩
  | _ => exact ⟨s', ρ', q, h1, h2⟩

theorem Wp.block {id : Nat} {c : Code} (h : Wp P r c (bQ id Q) s) : Wp P r (.block id c) Q s := by
  intro X a w ρ hr
  refine wpIn_block (Go.wpIn_mono (h X a w ρ hr) ?_)
  rintro e a' w' ⟨s', ρ', q, h1, h2⟩
  cases e with
  | exit id' =>
    simp only [Exit.inBlock]
    simp only [bQ] at q
    split
    · rename_i he; rw [if_pos he] at q; exact ⟨s', ρ', q, h1, h2⟩
    · rename_i he; rw [if_neg he] at q; exact ⟨s', ρ', q, h1, h2⟩
  | _ => exact ⟨s', ρ', q, h1, h2⟩

theorem Wp.cond {c : Operand} {x y : Code} {b : Bool} (hc : evo s.t c = .bool b) (h1 : b = true → Wp P r x Q s) (h2 : b = false → Wp P r y Q s) : Wp P r (.cond c x y) Q s := by
  intro X a w ρ hr
  have he := evo_rel hr.tmps c
  rw [hc, R_val] at he
  exact wpIn_cond_split he (fun e => h1 e X a w ρ hr) (fun e => h2 e X a w ρ hr)

/-- less is known -/
def Le (s s' : S) : Prop := (∀ p ∈ s'.t, look s.t p.1 = p.2) ∧ s.m = s'.m ∧ s.n = s'.n ∧ s.d = s'.d

theorem look_mem : ∀ (t : List (Nat × AV)) (n : Nat), look t n = .any ∨ (n, look t n) ∈ t
  | [], _ => .inl rfl
  | (k, x) :: t, n => by
    simp only [look]
    split
    · rename_i h; subst h; right; simp
    · rcases look_mem t n with h | h
      · exact .inl h
      · right; simp [h]

theorem Le.rel {s s' : S} (h : Le s s') {a : Act} (hr : Rel X s a w ρ) : Rel X s' a w ρ := by
  obtain ⟨h1, h2, h3, h4⟩ := h
  refine ⟨fun n => ?_, by rw [hr.size, h3], by rw [← h2]; exact hr.inv, by rw [← h4]; exact hr.defers⟩
  rcases look_mem s'.t n with e | e
  · rw [e]; trivial
  · have := h1 _ e
    simp only at this
    rw [← this]; exact hr.tmps n

end

theorem wpIn_loop_ghost {F : Fence} {n : Nat} {Q : Exit → Act → World → Prop} {a : Act} {w : World} {c : Code} {β : Type} (I : β → Act → World → Prop) (μ : β → Nat) (b0 : β) (h₀ : I b0 a w)
    (round : ∀ b a w, I b a w → c.wpIn F n P (Exit.then (fun a' w' => ∃ b', I b' a' w' ∧ μ b' < μ b) Q) a w) : (Code.loop c).wpIn F n P Q a w := by
  intro b k cs hro hb hr
  have key : ∀ j g a w, μ g = j → I g a w →
      ∃ e a' w', Q e a' w' ∧ ArrivesIn (Machine.fenced P F) P (lone (b.atR a (.code c :: .inLoop c :: k)) cs w) b k cs e a' w' := by
    intro j
    induction j using Nat.strongRecOn with
    | _ j ih =>
      intro g a w hj hI
      obtain ⟨e, a₁, w₁, hq, harr⟩ := round g a w hI b (.inLoop c :: k) cs hro hb hr
      cases e with
      | normal =>
        obtain ⟨g', hI₁, hlt⟩ := hq
        obtain ⟨e₂, a₂, w₂, hq₂, harr₂⟩ := ih (μ g') (hj ▸ hlt) g' a₁ w₁ rfl hI₁
        exact ⟨e₂, a₂, w₂, hq₂, .of_steps (StepsIn.trans harr (.one (fenced_calm hb hr rfl) stepR_inLoop)) harr₂⟩
      | exit id => exact ⟨_, a₁, w₁, hq, .pass (x := .inLoop c) rfl (fun _ _ => .inl (by simp)) harr⟩
      | goto l => exact ⟨_, a₁, w₁, hq, .pass (x := .inLoop c) rfl (fun _ _ => .inl (by simp)) harr⟩
      | ret => exact ⟨_, a₁, w₁, hq, .pass (x := .inLoop c) rfl (fun _ _ => .inl (by simp)) harr⟩
      | panic ch => exact ⟨_, a₁, w₁, hq, .pass (x := .inLoop c) rfl (fun _ _ => .inl (by simp)) harr⟩
      | outgrown => exact ⟨_, a₁, w₁, hq, .pass (x := .inLoop c) rfl (fun _ _ => .inl (by simp)) harr⟩
  obtain ⟨e, a', w', hq, harr⟩ := key _ b0 a w rfl h₀
  exact ⟨e, a', w', hq, .of_steps (.one (fenced_calm hb hr rfl) stepR_loop) harr⟩

/-- a loop: at each round's head the state is one of a family, and a measure falls -/
theorem Wp.loop {r : Option Nat} {Q : Exit → S → Prop} {s : S} {c : Code} {β : Type} (I : β → S) (C : β → Prop) (μ : β → Nat) (b0 : β) (h0 : Le s (I b0)) (hC : C b0)
    (round : ∀ b, C b → Wp P r c (tQ (fun s' => ∃ b', Le s' (I b') ∧ C b' ∧ μ b' < μ b) Q) (I b)) : Wp P r (.loop c) Q s := by
  intro X a w ρ hr
  refine wpIn_loop_ghost (fun b a' w' => C b ∧ ∃ ρ', Rel X (I b) a' w' ρ' ∧ Tr w ρ w' ρ') μ b0 ⟨hC, ρ, h0.rel hr, Tr.refl w ρ⟩ ?_
  rintro b a' w' ⟨hCb, ρ', hr', ht⟩
  refine Go.wpIn_mono (round b hCb X a' w' ρ' hr') ?_
  rintro e a2 w2 ⟨s2, ρ2, q, h1, h2⟩
  cases e with
  | normal =>
    obtain ⟨b', k1, k2, k3⟩ := q
    exact ⟨b', ⟨k2, ρ2, k1.rel h1, ht.trans h2⟩, k3⟩
  | _ => exact ⟨s2, ρ2, q, h1, ht.trans h2⟩

theorem Wp.region {r : Option Nat} {Q : Exit → S → Prop} {s : S} {id : Nat} {ops : List Oper} (h : RunL P (ops.map (·.dst)) ops (Q .normal) s) : Wp P r (.region id ops.toArray false) Q s := by
  intro X a w ρ hr
  refine wpIn_region_lit (RunL.sound (gds := ops.map (·.dst)) (by simp) ops s a w ρ h hr ?_)
  intro s' a' w' ρ' q1 q2 q3
  exact ⟨s', ρ', q1, q2, q3⟩

theorem Wp.drawn {r : Option Nat} {Q : Exit → S → Prop} {s s1 : S} {id : Nat} {ops : List Oper} (n : Nat) (hm : P.follows .mixedOrders = true) (hB : drawB (ops.map (·.dst)) ops n = true) (hg : gdsOk (ops.map (·.dst)) s.n)
    (habs : Abs P (ops.map (·.dst)) (ops.take n) s s1) (h : RunL P (ops.map (·.dst)) (ops.drop n) (Q .normal) s1) : Wp P r (.region id ops.toArray true) Q s :=
  fun X a w ρ hr => Go.Vg.drawn rfl n hm hB hg habs h hr fun s' a' w' ρ' q1 q2 q3 => ⟨s', ρ', q1, q2, q3⟩

/-! ids that are mentioned -/
mutual
def AV.ok (k : Nat) : AV → Prop
  | .val _ => True
  | .any => True
  | .lst _ l => okL k l
  | .osl id _ _ _ => id < k
  | .emp => True
  | .ref xs _ => okL k xs
  | .optr id _ _ _ => id < k
  | .agg xs => okL k xs
  | .tup xs => okL k xs
  | .clo _ caps => okL k caps
  | .bnd _ xs => okL k xs
  | .opt _ x => x.ok k
  | .yld id _ => id < k
  | .omap id _ => id < k
def okL (k : Nat) : List AV → Prop
  | [] => True
  | x :: l => x.ok k ∧ okL k l
end

theorem okL_iff {k : Nat} : ∀ {l : List AV}, okL k l ↔ ∀ x ∈ l, x.ok k
  | [] => by simp [okL]
  | x :: l => by simp [okL, okL_iff]
@[simp] theorem okL_map {α : Type} {k : Nat} {f : α → AV} {l : List α} (h : ∀ x, (f x).ok k) : okL k (l.map f) := by
  rw [okL_iff]; intro x hx; obtain ⟨y, _, rfl⟩ := List.mem_map.1 hx; exact h y
theorem ok_ints (k : Nat) (l : List Int) : (AV.ints l).ok k := okL_map fun _ => trivial
/-- fewer entries: what does not mention the others stays -/
theorem take_kp {k : Nat} {i : Nat} {r : RE} (hi : i < k) (h : ρ[i]? = some r) : (ρ.take k)[i]? = some r := by simp [hi, h]
theorem Free.take {b : Nat} (h : Free X ρ b) (k : Nat) : Free X (ρ.take k) b := ⟨h.1, fun r hr => h.2 r (List.mem_of_mem_take hr)⟩

mutual
theorem Rp.take (k : Nat) : ∀ (x : AV), x.ok k → (∀ v, R X w ρ x v → R X w (ρ.take k) x v) ∧ (∀ sz b o, Re X w ρ x sz b o → Re X w (ρ.take k) x sz b o)
  | .val _, _ => ⟨fun _ h => h, fun _ _ _ h => h⟩
  | .any, _ => ⟨fun _ h => h, fun _ _ _ h => h⟩
  | .lst sz l, hk => by
    have key : ∀ v, R X w ρ (.lst sz l) v → R X w (ρ.take k) (.lst sz l) v := by
      rintro v ⟨A, c, h1, h2, h3, h4⟩
      refine ⟨A, c, h1, h2, h3, fun hl => ?_⟩
      obtain ⟨b, o, hA, hf, hs, hr⟩ := h4 hl
      exact ⟨b, o, hA, hf.take k, hs, Rrow.taken k l hk sz b o hr⟩
    exact ⟨key, fun _ _ _ h => OneAt.mono (fun _ => rfl) h key⟩
  | .osl id ver off len, hk => by
    have key : ∀ v, R X w ρ (.osl id ver off len) v → R X w (ρ.take k) (.osl id ver off len) v := by
      rintro v ⟨A, c, r, h1, h2, h3, h4⟩
      exact ⟨A, c, r, h1, take_kp hk h2, h3, h4⟩
    exact ⟨key, fun _ _ _ h => OneAt.mono (fun _ => rfl) h key⟩
  | .emp, _ => ⟨fun _ h => h, fun _ _ _ h => h⟩
  | .ref xs j, hk => by
    have key : ∀ v, R X w ρ (.ref xs j) v → R X w (ρ.take k) (.ref xs j) v := by
      rintro v ⟨b, o, h1, hj, hf, hr⟩
      exact ⟨b, o, h1, hj, hf.take k, Rcells.taken k xs hk b o hr⟩
    exact ⟨key, fun _ _ _ h => OneAt.mono (fun _ => rfl) h key⟩
  | .optr id ver i j, hk => by
    have key : ∀ v, R X w ρ (.optr id ver i j) v → R X w (ρ.take k) (.optr id ver i j) v := by
      rintro v ⟨A, r, h1, h2, h3, h4⟩
      exact ⟨A, r, h1, take_kp hk h2, h3, h4⟩
    exact ⟨key, fun _ _ _ h => OneAt.mono (fun _ => rfl) h key⟩
  | .agg xs, hk => ⟨fun _ ⟨vs, h1, h2⟩ => ⟨vs, h1, Rvals.taken k xs hk vs h2⟩, fun _ b o h => ⟨h.1, Rcells.taken k xs hk b o h.2⟩⟩
  | .tup xs, hk => ⟨fun _ ⟨vs, h1, h2⟩ => ⟨vs, h1, Rvals.taken k xs hk vs h2⟩, fun _ _ _ h => h⟩
  | .clo f caps, hk => by
    have key : ∀ v, R X w ρ (.clo f caps) v → R X w (ρ.take k) (.clo f caps) v := by
      rintro v ⟨vs, h1, h2⟩
      exact ⟨vs, h1, Rvals.taken k caps hk vs h2⟩
    exact ⟨key, fun _ _ _ h => OneAt.mono (fun _ => rfl) h key⟩
  | .bnd f xs, hk => by
    have key : ∀ v, R X w ρ (.bnd f xs) v → R X w (ρ.take k) (.bnd f xs) v := by
      rintro v ⟨vs, h1, h2⟩
      exact ⟨vs, h1, Rvals.taken k xs hk vs h2⟩
    exact ⟨key, fun _ _ _ h => OneAt.mono (fun _ => rfl) h key⟩
  | .opt g x, hk => ⟨fun v h => ⟨fun e => (Rp.take k x hk).1 v (h.1 e), h.2⟩, fun _ _ _ h => h⟩
  | .yld id ver, hk => by
    have key : ∀ v, R X w ρ (.yld id ver) v → R X w (ρ.take k) (.yld id ver) v := by
      rintro v ⟨l, r, h1, h2, h3, h4⟩
      exact ⟨l, r, h1, take_kp hk h2, h3, h4⟩
    exact ⟨key, fun _ _ _ h => OneAt.mono (fun _ => rfl) h key⟩
  | .omap id ver, hk => by
    have key : ∀ v, R X w ρ (.omap id ver) v → R X w (ρ.take k) (.omap id ver) v := by
      rintro v ⟨l, r, h1, h2, h3, h4⟩
      exact ⟨l, r, h1, take_kp hk h2, h3, h4⟩
    exact ⟨key, fun _ _ _ h => OneAt.mono (fun _ => rfl) h key⟩
theorem Rvals.taken (k : Nat) : ∀ (xs : List AV), okL k xs → ∀ (vs : List Value), Rvals X w ρ xs vs → Rvals X w (ρ.take k) xs vs
  | [], _, _, h => h
  | x :: xs, hk, _, ⟨v, vs', h1, h2, h3⟩ => ⟨v, vs', h1, (Rp.take k x hk.1).1 v h2, Rvals.taken k xs hk.2 vs' h3⟩
theorem Rcells.taken (k : Nat) : ∀ (xs : List AV), okL k xs → ∀ (b o : Nat), Rcells X w ρ xs b o → Rcells X w (ρ.take k) xs b o
  | [], _, _, _, _ => trivial
  | x :: xs, hk, b, o, ⟨⟨v, hv, h1, hx⟩, h2⟩ => ⟨⟨v, hv, h1, (Rp.take k x hk.1).1 v hx⟩, Rcells.taken k xs hk.2 b (o + 1) h2⟩
theorem Rrow.taken (k : Nat) : ∀ (l : List AV), okL k l → ∀ (sz b o : Nat), Rrow X w ρ l sz b o → Rrow X w (ρ.take k) l sz b o
  | [], _, _, _, _, _ => trivial
  | x :: l, hk, sz, b, o, ⟨h1, h2⟩ => ⟨(Rp.take k x hk.1).2 sz b o h1, Rrow.taken k l hk.2 sz b (o + sz) h2⟩
end

def Kind.ok (k : Nat) : Kind → Prop
  | .row _ l => okL k l
  | .dfr => True
  | .lrec t _ _ _ _ _ _ => okL k (t.map (·.2))
  | .mp l => okL k (l.map (·.2))
  | .ext _ _ => True

theorem look_ok {k : Nat} : ∀ {t : List (Nat × AV)}, okL k (t.map (·.2)) → ∀ n, (look t n).ok k
  | [], _, _ => trivial
  | (j, x) :: t, h, n => by
    simp only [look]
    split
    · exact h.1
    · exact look_ok h.2 n

theorem KindAt.take {k : Nat} {r : RE} {kd : Kind} (hk : kd.ok k) (h : KindAt X w ρ r kd) : KindAt X w (ρ.take k) r kd := by
  cases kd with
  | row sz l =>
    obtain ⟨q1, q2, q3⟩ := h
    exact ⟨q1, q2, fun b hb => let ⟨r1, r2, r3⟩ := q3 b hb; ⟨r1, r2, Rrow.taken k l hk sz b r.base r3⟩⟩
  | dfr => exact h
  | lrec t n ps asg body pe busy =>
    obtain ⟨b', rec, q1, q2, q3, q4, q5, q6, q7, q8, q9⟩ := h
    exact ⟨b', rec, q1, q2, q3, q4, q5, q6, q7, q8, fun j => (Rp.take k _ (look_ok hk j)).1 _ (q9 j)⟩
  | mp l =>
    obtain ⟨q0, b', es, clock, q1, q2, q3⟩ := h
    have := Rents.map (f := id) (fun x => x.ok k) (fun x v hx q => (Rp.take k x hx).1 v q) (fun kx hx => okL_iff.1 hk _ (List.mem_map.2 ⟨kx, hx, rfl⟩)) q3
    exact ⟨q0, b', es, clock, q1, q2, by simpa using this⟩
  | ext bl o => exact h

theorem Inv.take {m : Mem} (hi : Inv X w ρ m) (k : Nat) (hk : ∀ e ∈ m.take k, e.kind.ok k) : Inv X w (ρ.take k) (m.take k) := by
  have get : ∀ {α : Type} {l : List α} {i : Nat} {x : α}, (l.take k)[i]? = some x → i < k ∧ l[i]? = some x := by
    intro α l i x h
    rw [List.getElem?_take] at h
    split at h
    · rename_i hlt; exact ⟨hlt, h⟩
    · cases h
  refine ⟨by simp [hi.len], fun i r e hr he => ?_, fun i j r r' b hr hr' => hi.apart i j r r' b (get hr).2 (get hr').2, fun i r b hr => hi.new i r b (get hr).2, hi.out, hi.gd.sub fun r hr => List.mem_of_mem_take hr⟩
  obtain ⟨h1, h2⟩ := hi.at_ i r e (get hr).2 (get he).2
  exact ⟨h1, h2.take (hk e (List.mem_of_getElem? he))⟩

theorem Tr.take {w w' : World} {ρ ρ' : Rho} (h : Tr w ρ w' ρ') {k : Nat} (hk : ρ.length ≤ k) : Tr w ρ w' (ρ'.take k) := by
  refine ⟨h.os, h.tape, h.output, h.size, fun i r hr => ?_, fun b hb hlt => ?_⟩
  · obtain ⟨r', k1, k2, k3⟩ := h.vers i r hr
    have hi : i < ρ.length := (List.getElem?_eq_some_iff.1 hr).1
    exact ⟨r', take_kp (by omega) k1, k2, k3⟩
  · obtain ⟨k1, k2⟩ := h.block b hb hlt
    exact ⟨fun r hr => k1 r (List.mem_of_mem_take hr), k2⟩
end Go.Vg
