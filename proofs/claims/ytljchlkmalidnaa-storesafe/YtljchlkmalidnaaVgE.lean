/- The abstract machine, part E: slicing; all operations that only compute, in one theorem. -/
import Derived.Test.YtljchlkmalidnaaVgD
set_option linter.all false
set_option linter.unusedVariables false
namespace Go.Vg
open Go.RowKit
variable {P : Program} {X : Nat → Prop} {w : World} {ρ : Rho}

theorem Rrow.drop {sz b : Nat} : ∀ {l : List AV} {o : Nat} (j : Nat), Rrow X w ρ l sz b o → Rrow X w ρ (l.drop j) sz b (o + j * sz)
  | l, o, 0, h => by simpa using h
  | [], _, j + 1, _ => by simp [Rrow]
  | x :: l, o, j + 1, h => by
    have := Rrow.drop (o := o + sz) j h.2
    rw [show o + (j + 1) * sz = o + sz + j * sz by rw [Nat.add_mul]; omega]
    simpa using this
theorem Rrow.take {sz b : Nat} : ∀ {l : List AV} {o : Nat} (n : Nat), Rrow X w ρ l sz b o → Rrow X w ρ (l.take n) sz b o
  | l, o, 0, _ => by simp [Rrow]
  | [], _, n + 1, _ => by simp [Rrow]
  | x :: l, o, n + 1, h => by simp only [List.take_succ_cons]; exact ⟨h.1, Rrow.take n h.2⟩
theorem Rrow.append {sz b : Nat} : ∀ {l l' : List AV} {o : Nat}, Rrow X w ρ l sz b o → Rrow X w ρ l' sz b (o + l.length * sz) → Rrow X w ρ (l ++ l') sz b o
  | [], _, _, _, h => by simpa using h
  | x :: l, l', o, h, h' => by
    refine ⟨h.1, Rrow.append h.2 ?_⟩
    rw [show o + sz + l.length * sz = o + (x :: l).length * sz by simp [Nat.add_mul]; omega]
    exact h'

/-- two bounds of a slice expression -/
theorem run_bounds {isS : Bool} {len cap : Nat} {lo hi : Option AV} {vlo vhi : Option Value} {a b : Int} (hlo : ∀ x, lo = some x → ∃ v, vlo = some v ∧ R X w ρ x v) (hlo' : lo = none → vlo = none)
    (hhi : ∀ x, hi = some x → ∃ v, vhi = some v ∧ R X w ρ x v) (hhi' : hi = none → vhi = none) (h1 : loOf lo = some a) (h2 : hiOf len hi = some b) (h0 : 0 ≤ a) (hab : a ≤ b) (hb : b ≤ (len : Int)) (hc : len ≤ cap) :
    (Instr.sliceBounds isS len cap vlo vhi none).run P w = .ok (a.toNat, b.toNat, cap) w := by
  have shi : (hi = none ∧ vhi = none ∧ b = (len : Int)) ∨ ∃ k, vhi = some (.int k b) := by
    cases hi with
    | none => simp only [hiOf, Option.some.injEq] at h2; exact .inl ⟨rfl, hhi' rfl, h2.symm⟩
    | some x =>
      obtain ⟨v, rfl, hv⟩ := hhi x rfl
      cases x <;> simp only [hiOf, reduceCtorEq] at h2
      rename_i u
      rw [R_val] at hv; subst hv
      cases v <;> simp only [reduceCtorEq, Option.some.injEq] at h2
      subst h2; exact .inr ⟨_, rfl⟩
  have slo : (lo = none ∧ vlo = none ∧ a = 0) ∨ ∃ k, vlo = some (.int k a) := by
    cases lo with
    | none => simp only [loOf, Option.some.injEq] at h1; exact .inl ⟨rfl, hlo' rfl, h1.symm⟩
    | some x =>
      obtain ⟨v, rfl, hv⟩ := hlo x rfl
      cases x <;> simp only [loOf, reduceCtorEq] at h1
      rename_i u
      rw [R_val] at hv; subst hv
      cases v <;> simp only [reduceCtorEq, Option.some.injEq] at h1
      subst h1; exact .inr ⟨_, rfl⟩
  have b1 : 0 ≤ b := by omega
  have b2 : b ≤ (cap : Int) := by omega
  have b3 : a ≤ (b.toNat : Int) := by omega
  rcases slo with ⟨_, rfl, rfl⟩ | ⟨k, rfl⟩ <;> rcases shi with ⟨_, rfl, rfl⟩ | ⟨k', rfl⟩
  · simp [Instr.sliceBounds]
  · simp [Instr.sliceBounds, Instr.sliceBound, asIntOf, b1, b2]
  · have b4 : a ≤ (len : Int) := by omega
    simp [Instr.sliceBounds, Instr.sliceBound, asIntOf, h0, b4]
  · simp only [Instr.sliceBounds, Instr.sliceBound, asIntOf, Sem.run_bind, Sem.run_pure, Result.andThen_ok, Sem.run_ite, b1, b2, and_self, if_true, h0, b3, Option.isSome_none, Bool.false_eq_true, if_false]

theorem cutL_eq {lo hi : Option AV} {l : List AV} {a b : Int} (h1 : loOf lo = some a) (h2 : hiOf l.length hi = some b) : cutL lo hi l a b = (l.take b.toNat).drop a.toNat := by
  cases lo <;> cases hi <;> simp only [loOf, hiOf, Option.some.injEq] at h1 h2 <;> simp only [cutL]
  · subst h1 h2; simp
  · subst h1; simp
  · subst h2; simp

theorem sliceA_run {m : Mem} (hi : Inv X w ρ m) {t : TypeId} {x : AV} {lo hi' mx : Option AV} {vx : Value} {vlo vhi vmx : Option Value} {z : AV} {p : Prop} (hx : R X w ρ x vx)
    (hlo : ∀ x, lo = some x → ∃ v, vlo = some v ∧ R X w ρ x v) (hlo' : lo = none → vlo = none)
    (hhi : ∀ x, hi' = some x → ∃ v, vhi = some v ∧ R X w ρ x v) (hhi' : hi' = none → vhi = none)
    (hmx : ∀ x, mx = some x → ∃ v, vmx = some v ∧ R X w ρ x v) (hmx' : mx = none → vmx = none)
    (h : sliceA P m t x lo hi' mx = some (z, p)) (hp : p) :
    ∃ v, (Instr.sliceAt t vx vlo vhi vmx).run P w = .ok v w ∧ R X w ρ z v := by
  have zero : ∀ {A : Option Addr} {len c : Nat} {e : TypeId} {kk kk' : IntKind}, uk P t = .slice e → lo = none → hi' = some (.val (.int kk 0)) → mx = some (.val (.int kk' 0)) → vx = .slice A len c → (∃ sz, tsz P e = some sz) →
      ∃ v, (Instr.sliceAt t vx vlo vhi vmx).run P w = .ok v w ∧ R X w ρ .emp v := by
    intro A len c e kk kk' hu h1 h2 h3 h4 ⟨sz, hsz⟩
    subst h4
    obtain ⟨v1, rfl, e1⟩ := hhi _ h2
    obtain ⟨v2, rfl, e2⟩ := hmx _ h3
    rw [R_val] at e1 e2; subst e1 e2
    rw [hlo' h1]
    refine ⟨.slice A 0 0, ?_, A, rfl⟩
    simp [Instr.sliceAt, underlying, uk_slice hu, Instr.slice, Instr.sliceBounds, Instr.sliceBound, asIntOf, run_sizeOf hsz]
  unfold sliceA at h
  split at h
  · rename_i s hu
    rw [hmx' rfl]
    split at h <;> simp only [Option.some.injEq, Prod.mk.injEq, reduceCtorEq] at h
    rename_i a b ha hb
    obtain ⟨rfl, rfl⟩ := h
    rw [R_val] at hx; subst hx
    refine ⟨_, ?_, rfl⟩
    have := run_bounds (P := P) (isS := false) (cap := s.size) hlo hlo' hhi hhi' ha hb hp.1 hp.2.1 hp.2.2 (Nat.le_refl _)
    simp [Instr.sliceAt, underlying, uk_string hu, Instr.slice, this]
  · rename_i e sz l hu
    rw [hmx' rfl]
    split at h <;> (try (cases h; done))
    rename_i hsz
    split at h <;> simp only [Option.some.injEq, Prod.mk.injEq, reduceCtorEq] at h
    rename_i a b ha hb
    obtain ⟨rfl, rfl⟩ := h
    obtain ⟨A, c, rfl, hc1, hc2, hrow⟩ := hx
    have := run_bounds (P := P) (isS := true) (cap := c) hlo hlo' hhi hhi' ha hb hp.1 hp.2.1 hp.2.2 hc1
    refine ⟨_, by simp [Instr.sliceAt, underlying, uk_slice hu, Instr.slice, this, run_sizeOf hsz]; rfl, ?_⟩
    rw [cutL_eq ha hb]
    have hlen : ((l.take b.toNat).drop a.toNat).length = b.toNat - a.toNat := by simp; omega
    refine ⟨_, c - a.toNat, by rw [hlen], by omega, by omega, fun hne => ?_⟩
    have hlt : a.toNat < b.toNat := by
      rcases Nat.lt_or_ge a.toNat b.toNat with h' | h'
      · exact h'
      · exact absurd (List.eq_nil_of_length_eq_zero (by omega)) hne
    obtain ⟨b0, o, rfl, hf, hs0, hr⟩ := hrow (by intro e; subst e; simp at hp; omega)
    refine ⟨b0, o + a.toNat * sz, ?_, hf, hs0, (hr.take b.toNat).drop a.toNat⟩
    rw [if_neg (by omega)]; simp [Addr.add_none]
  · rename_i e id ver off len hu
    rw [hmx' rfl]
    split at h <;> (try (cases h; done))
    rename_i v sz l hm
    split at h <;> (try (cases h; done))
    rename_i hsz
    obtain ⟨rfl, hsz⟩ := hsz
    split at h <;> simp only [Option.some.injEq, Prod.mk.injEq, reduceCtorEq] at h
    rename_i a b ha hb
    obtain ⟨rfl, rfl⟩ := h
    obtain ⟨r, hr, hv, hrz, hnone, hblk⟩ := hi.row hm
    obtain ⟨A, c, r', rfl, hr', hle, hat⟩ := hx
    rw [hr] at hr'; cases hr'
    obtain ⟨hl, hc, hpos⟩ := hat hv.symm
    have := run_bounds (P := P) (isS := true) (cap := c) hlo hlo' hhi hhi' ha hb hp.1 hp.2.1 hp.2.2 hl
    refine ⟨_, by simp [Instr.sliceAt, underlying, uk_slice hu, Instr.slice, this, run_sizeOf hsz]; rfl, ?_⟩
    refine ⟨_, c - a.toNat, r, rfl, hr, by omega, fun _ => ⟨by omega, by omega, fun h0 => ?_⟩⟩
    obtain ⟨b0, hb0, rfl, hfit⟩ := hpos (by omega)
    refine ⟨b0, hb0, ?_, ?_⟩
    · rw [if_neg (by omega), hrz]; simp [Addr.add_none, Nat.add_mul, Nat.add_assoc]
    · rw [show off + a.toNat + (c - a.toNat) = off + c by omega]; exact hfit
  · rename_i e hu
    rw [hmx' rfl]
    split at h <;> simp only [Option.some.injEq, Prod.mk.injEq, reduceCtorEq] at h
    rename_i sz a b hsz ha hb
    obtain ⟨rfl, rfl⟩ := h
    obtain ⟨A, rfl⟩ := hx
    obtain ⟨rfl, rfl⟩ := hp
    have := run_bounds (P := P) (isS := true) (cap := 0) (len := 0) hlo hlo' hhi hhi' ha hb (by omega) (by omega) (by omega) (Nat.le_refl _)
    exact ⟨.slice A 0 0, by simp [Instr.sliceAt, underlying, uk_slice hu, Instr.slice, this, run_sizeOf hsz], A, rfl⟩
  · rename_i e sz l kk hu
    split at h <;> simp only [Option.some.injEq, Prod.mk.injEq, reduceCtorEq] at h
    rename_i hsz
    obtain ⟨rfl, rfl⟩ := h
    obtain ⟨A, c, rfl, _⟩ := hx
    exact zero hu rfl rfl rfl rfl ⟨_, hsz⟩
  · rename_i e id ver off len kk hu
    split at h <;> simp only [Option.some.injEq, Prod.mk.injEq, reduceCtorEq] at h
    rename_i hsz
    obtain ⟨rfl, rfl⟩ := h
    obtain ⟨A, c, r, rfl, _⟩ := hx
    exact zero hu rfl rfl rfl rfl ⟨_, hsz⟩
  · rename_i e kk hu
    split at h <;> simp only [Option.some.injEq, Prod.mk.injEq, reduceCtorEq] at h
    rename_i hsz
    obtain ⟨rfl, rfl⟩ := h
    obtain ⟨A, rfl⟩ := hx
    exact zero hu rfl rfl rfl rfl ⟨_, hsz⟩
  · cases h

theorem Rvals_map {E : Operand → AV} {a : Act} : ∀ (l : List Operand), (∀ x ∈ l, R X w ρ (E x) (a.eval x)) → Rvals X w ρ (l.map E) (l.map a.eval)
  | [], _ => rfl
  | x :: l, h => ⟨a.eval x, l.map a.eval, rfl, h x (by simp), Rvals_map l fun y hy => h y (by simp [hy])⟩

theorem callA_run {E : Operand → AV} {a : Act} {c : Call} {ty : TypeId} (ho : ∀ x ∈ c.args, R X w ρ (E x) (a.eval x)) {z : AV} {p : Prop} (h : callA P E c = some (z, p)) :
    ∃ v, (do let d ← resolve a.eval c ty; invoke d.target d.args : Sem Next).run P w = .ok (.value v) w ∧ R X w ρ z v := by
  unfold callA at h
  split at h
  · rename_i hc
    split at h <;> (try (cases h; done))
    rename_i x ty' hx hty
    have e1 : c.args = #[x] := by apply Array.ext'; simpa using hx
    have e2 : c.argTypes = #[ty'] := by apply Array.ext'; simpa using hty
    have hr := ho x (by simp [e1])
    have key : ∀ {n : Nat}, (Builtin.len_ #[ty'] ty #[a.eval x]).run P w = .ok (goInt n) w → ∃ v, (do let d ← resolve a.eval c ty; invoke d.target d.args : Sem Next).run P w = .ok (.value v) w ∧ R X w ρ (.int (n : Int)) v := by
      intro n hn
      exact ⟨goInt n, by simp [resolve, hc, invoke, builtin, e1, e2, hn], rfl⟩
    split at h <;> simp only [Option.some.injEq, Prod.mk.injEq, reduceCtorEq] at h <;> (try exact h.elim) <;> obtain ⟨rfl, rfl⟩ := h
    · rename_i s hu hs
      rw [hs, R_val] at hr
      exact key (by simp [Builtin.len_, underlying, uk_string hu, hr])
    · rename_i e sz l hu hs
      rw [hs] at hr
      obtain ⟨A, c', hr, _⟩ := hr
      exact key (by simp [Builtin.len_, underlying, uk_slice hu, hr])
    · rename_i e id ver off len hu hs
      rw [hs] at hr
      obtain ⟨A, c', r, hr, _⟩ := hr
      exact key (by simp [Builtin.len_, underlying, uk_slice hu, hr])
    · rename_i e hu hs
      rw [hs] at hr
      obtain ⟨A, hr⟩ := hr
      exact key (n := 0) (by simp [Builtin.len_, underlying, uk_slice hu, hr])
  · rename_i hc
    split at h <;> (try (cases h; done))
    rename_i x ty' hx hty
    have e1 : c.args = #[x] := by apply Array.ext'; simpa using hx
    have e2 : c.argTypes = #[ty'] := by apply Array.ext'; simpa using hty
    have hr := ho x (by simp [e1])
    split at h <;> simp only [Option.some.injEq, Prod.mk.injEq, reduceCtorEq] at h <;> (try exact h.elim)
    rename_i e hu hs
    obtain ⟨rfl, rfl⟩ := h
    rw [hs] at hr
    obtain ⟨A, hr⟩ := hr
    exact ⟨goInt 0, by simp [resolve, hc, invoke, builtin, e1, e2, Builtin.cap_, underlying, uk_slice hu, hr], rfl⟩
  · rename_i hc
    split at h <;> (try (cases h; done))
    rename_i x y hx
    have e1 : c.args = #[x, y] := by apply Array.ext'; simpa using hx
    obtain ⟨v, h1, h2⟩ := minA_run (P := P) (ts := c.argTypes) (o := ty) (ho x (by simp [e1])) (ho y (by simp [e1])) h
    exact ⟨v, by simp [resolve, hc, invoke, builtin, e1, h1], h2⟩
  · rename_i hc
    split at h <;> (try (cases h; done))
    rename_i x y hx
    have e1 : c.args = #[x, y] := by apply Array.ext'; simpa using hx
    obtain ⟨v, h1, h2⟩ := maxA_run (P := P) (ts := c.argTypes) (o := ty) (ho x (by simp [e1])) (ho y (by simp [e1])) h
    exact ⟨v, by simp [resolve, hc, invoke, builtin, e1, h1], h2⟩
  · cases h

/-- an operation that only computes: it yields what 'ev' says, and nothing turns -/
theorem Inv.omap {m : Mem} (hi : Inv X w ρ m) {id ver : Nat} {l : List (Value × AV)} {v : Value} (hm : m[id]? = some ⟨ver, .mp l⟩) (hx : R X w ρ (.omap id ver) v) :
    ∃ r b es clock, v = .map (some b) ∧ ρ[id]? = some r ∧ r.ver = ver ∧ r.blk = some b ∧ w.heap[b]? = some (.map es clock) ∧ (l.map (·.1)).Nodup ∧ Rents X w ρ l es.toList := by
  obtain ⟨A, r, rfl, h1, h2, h3⟩ := hx
  obtain ⟨hv, q0, b, es, clock, q1, q2, q3⟩ := hi.at_ id r _ h1 hm
  simp only at hv
  obtain ⟨b', e1, rfl⟩ := h3 hv.symm
  rw [q1] at e1; cases e1
  exact ⟨r, b, es, clock, rfl, h1, hv, q1, q2, q0, q3⟩
theorem lookA_run {m : Mem} (hi : Inv X w ρ m) {ty : TypeId} {x k z : AV} {c : Bool} {vx vk : Value} {p : Prop} (hx : R X w ρ x vx) (hk : R X w ρ k vk) (h : lookA P m ty x k c = some (z, p)) (hp : p) :
    ∃ v, (Instr.lookup ty vx vk c).run P w = .ok v w ∧ R X w ρ z v := by
  unfold lookA at h
  split at h <;> (try (cases h; done))
  rename_i id ver kt et kv hmt hkv
  split at h <;> (try (cases h; done))
  rename_i v l hm
  split at h <;> (try (cases h; done))
  rename_i hv
  subst hv
  have := keyV_rel hkv hk
  subst this
  obtain ⟨r, b, es, clock, rfl, _, _, _, hb, hnd, hr⟩ := hi.omap hm hx
  split at h
  · rename_i y hy
    simp only [Option.some.injEq, Prod.mk.injEq] at h
    obtain ⟨rfl, rfl⟩ := h
    obtain ⟨p1, p2, p3, p4⟩ := hp
    obtain ⟨q1, _⟩ := lookup_run (c := c) (mpT_some hmt) p1 p2 p3 p4 hb hnd hr
    obtain ⟨u, g1, g2⟩ := q1 y hy
    cases c
    · exact ⟨_, g1, g2⟩
    · exact ⟨_, g1, [u, .bool true], rfl, u, _, rfl, g2, _, _, rfl, rfl, rfl⟩
  · rename_i hy
    split at h <;> (try (cases h; done))
    rename_i z0 hz
    simp only [Option.some.injEq, Prod.mk.injEq] at h
    obtain ⟨rfl, rfl⟩ := h
    obtain ⟨p1, p2, p3, p4⟩ := hp
    obtain ⟨_, q2⟩ := lookup_run (c := c) (mpT_some hmt) p1 p2 p3 p4 hb hnd hr
    obtain ⟨u, g1, g2⟩ := zAV_some (P := P) (X := X) (w := w) (ρ := ρ) hz
    have g3 := q2 hy u g1
    cases c
    · exact ⟨_, g3, g2⟩
    · exact ⟨_, g3, [u, .bool false], rfl, u, _, rfl, g2, _, _, rfl, rfl, rfl⟩
theorem ev_run {m : Mem} (hi : Inv X w ρ m) {E B : Operand → AV} {a : Act} {o : Oper} (ho : ∀ x ∈ o.op.needs, R X w ρ (E x) (a.eval x)) (hB : ∀ x ∈ o.op.operands, R X w ρ (B x) (a.eval x)) {z : AV} {p : Prop} (h : ev P E B m o.op = some (z, p)) (hp : p) :
    ∃ v, (execOp a.eval o).run P w = .ok (.value v) w ∧ R X w ρ z v := by
  have fin : ∀ {s : Sem Value}, (∃ v, s.run P w = .ok v w ∧ R X w ρ z v) → ∃ v, (do pure (Next.value (← s)) : Sem Next).run P w = .ok (.value v) w ∧ R X w ρ z v := by
    rintro s ⟨v, h1, h2⟩
    exact ⟨v, by simp [h1], h2⟩
  unfold ev at h
  unfold execOp
  split at h
  · rename_i x he; rw [he] at ho hB ⊢
    simp only [Option.some.injEq, Prod.mk.injEq] at h; obtain ⟨rfl, rfl⟩ := h
    exact ⟨_, by simp, ho x (by simp [Op.needs, Op.operands])⟩
  · rename_i x he; rw [he] at ho hB ⊢
    simp only [Option.some.injEq, Prod.mk.injEq] at h; obtain ⟨rfl, rfl⟩ := h
    exact ⟨_, by simp, ho x (by simp [Op.needs, Op.operands])⟩
  · rename_i c x y he; rw [he] at ho hB ⊢
    split at h
    · rename_i g hg
      have hc := ho c (by simp [Op.needs]); rw [hg, R_val] at hc
      have := pickA_rel (hB x (by simp [Op.operands])) (hB y (by simp [Op.operands])) h hp
      exact ⟨_, by simp [hc, asBool], this⟩
    · cases h
  · rename_i op xt x y yt he; rw [he] at ho hB ⊢
    exact fin (binA_run (ho x (by simp [Op.needs, Op.operands])) (ho y (by simp [Op.needs, Op.operands])) h hp)
  · rename_i op ty x he; rw [he] at ho hB ⊢
    exact fin (unA_run (ho x (by simp [Op.needs, Op.operands])) h)
  · rename_i src dst x he; rw [he] at ho hB ⊢
    exact fin (convA_run (ho x (by simp [Op.needs, Op.operands])) h)
  · rename_i x i he; rw [he] at ho hB ⊢
    split at h
    · rename_i xs hx
      simp only [Option.some.injEq, Prod.mk.injEq] at h; obtain ⟨rfl, rfl⟩ := h
      have hc := ho x (by simp [Op.needs, Op.operands]); rw [hx] at hc
      obtain ⟨vs, e1, e2⟩ := hc
      obtain ⟨v, hv, hR⟩ := e2.nth (List.getElem?_eq_getElem hp)
      refine fin ⟨v, by simp [e1, Instr.extract, hv], ?_⟩
      have : xs.getD i .any = xs[i] := by simp [hp]
      rw [this]; exact hR
    · cases h
  · rename_i ty x i he; rw [he] at ho hB ⊢
    exact fin (idxA_run hi (ho x (by simp [Op.needs, Op.operands])) (ho i (by simp [Op.needs, Op.operands])) h hp)
  · rename_i ty x he; rw [he] at ho hB ⊢
    exact fin (loadA_run hi (ho x (by simp [Op.needs, Op.operands])) h hp)
  · rename_i ty x f he; rw [he] at ho hB ⊢
    exact fin (fieldAddrA_run hi (ho x (by simp [Op.needs, Op.operands])) h hp)
  · rename_i ty x f he; rw [he] at ho hB ⊢
    exact fin (fieldA_run (ho x (by simp [Op.needs, Op.operands])) h hp)
  · rename_i ty x i he; rw [he] at ho hB ⊢
    exact fin (indexA_run (ho x (by simp [Op.needs, Op.operands])) (ho i (by simp [Op.needs, Op.operands])) h hp)
  · rename_i ty x lo hi' mx he; rw [he] at ho hB ⊢
    refine fin (sliceA_run hi (ho x (by simp [Op.needs, Op.operands])) ?_ ?_ ?_ ?_ ?_ ?_ h hp)
    · intro y hy; cases lo with
      | none => cases hy
      | some l => simp only [Option.map_some, Option.some.injEq] at hy; subst hy; exact ⟨_, rfl, ho l (by simp [Op.needs, Op.operands])⟩
    · intro hy; cases lo with
      | none => rfl
      | some l => cases hy
    · intro y hy; cases hi' with
      | none => cases hy
      | some l => simp only [Option.map_some, Option.some.injEq] at hy; subst hy; exact ⟨_, rfl, ho l (by simp [Op.needs, Op.operands])⟩
    · intro hy; cases hi' with
      | none => rfl
      | some l => cases hy
    · intro y hy; cases mx with
      | none => cases hy
      | some l => simp only [Option.map_some, Option.some.injEq] at hy; subst hy; exact ⟨_, rfl, ho l (by simp [Op.needs, Op.operands])⟩
    · intro hy; cases mx with
      | none => rfl
      | some l => cases hy
  · rename_i c he; rw [he] at ho hB ⊢
    have := callA_run (P := P) (w := w) (X := X) (ρ := ρ) (E := E) (a := a) (ty := o.type) (fun x hx => ho x (by simp [Op.needs, Op.operands, Call.operands]; exact .inr hx)) h
    obtain ⟨v, h1, h2⟩ := this
    exact ⟨v, h1, h2⟩
  · rename_i fn first caps he; rw [he] at ho hB ⊢
    split at h <;> (try (cases h; done))
    · rename_i f hfirst
      have hf0 : first = #[] := by apply Array.ext'; simpa using hfirst
      subst hf0
      simp only [Option.some.injEq, Prod.mk.injEq] at h; obtain ⟨rfl, rfl⟩ := h
      refine fin ⟨.func (.func f) #[] (caps.map a.eval), by simp [Instr.makeFunc], caps.toList.map a.eval, ?_, Rvals_map caps.toList fun y hy => ho y (by simp [Op.needs, Op.operands]; simpa using hy)⟩
      congr 1; apply Array.ext'; simp
    · rename_i f x xs hfirst
      split at h <;> (try (cases h; done))
      rename_i hcaps
      have hc0 : caps = #[] := by apply Array.ext'; simpa using hcaps
      subst hc0
      simp only [Option.some.injEq, Prod.mk.injEq] at h; obtain ⟨rfl, rfl⟩ := h
      have hR : Rvals X w ρ ((x :: xs).map E) (first.toList.map a.eval) := by
        rw [← hfirst]
        exact Rvals_map first.toList fun y hy => ho y (by simp [Op.needs, Op.operands]; simpa using hy)
      refine fin ⟨.func (.func f) (first.map a.eval) #[], ?_, first.toList.map a.eval, ?_, hR⟩
      · unfold Instr.makeFunc
        simp
      · congr 1; apply Array.ext'; simp
  · rename_i t parts he; rw [he] at ho hB ⊢
    exact fin (buildA_run (fun q hq => ho q.2 (by simp [Op.needs, Op.operands]; exact ⟨q.1, by simpa using hq⟩)) h hp)
  · rename_i x he; rw [he] at ho hB ⊢
    have hx := ho x (by simp [Op.needs, Op.operands])
    split at h
    · rename_i xs j hx'
      simp only [Option.some.injEq, Prod.mk.injEq] at h; obtain ⟨rfl, rfl⟩ := h
      rw [hx'] at hx
      obtain ⟨b, o', e1, e2⟩ := id hx
      exact ⟨_, by simp [e1], e1 ▸ hx⟩
    · rename_i id ver i j hx'
      split at h <;> simp only [Option.some.injEq, Prod.mk.injEq, reduceCtorEq] at h
      rename_i hv
      obtain ⟨rfl, rfl⟩ := h
      rw [hx'] at hx
      obtain ⟨r, e, _, _, _, b, _, e1⟩ := hi.optr hv hx
      exact ⟨_, by simp [e1], e1 ▸ hx⟩
    · rename_i f caps hx'
      simp only [Option.some.injEq, Prod.mk.injEq] at h; obtain ⟨rfl, rfl⟩ := h
      rw [hx'] at hx
      obtain ⟨vs, e1, e2⟩ := id hx
      exact ⟨_, by simp [e1], e1 ▸ hx⟩
    · cases h
  · rename_i ty x k c he; rw [he] at ho hB ⊢
    exact fin (lookA_run hi (ho x (by simp [Op.needs, Op.operands])) (ho k (by simp [Op.needs, Op.operands])) h hp)
  · cases h
end Go.Vg
