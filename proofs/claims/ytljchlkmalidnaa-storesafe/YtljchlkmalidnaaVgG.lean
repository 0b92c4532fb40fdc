/- The abstract machine, part G: a region that draws its order. -/
import Derived.Test.YtljchlkmalidnaaVgF
import Derived.StillTail
set_option linter.all false
set_option linter.unusedVariables false
namespace Go.Vg
open Go.RowKit
variable {P : Program} {X : Nat → Prop} {w : World} {ρ : Rho}

/-- a list of operations that turn no memory of ours, in the order of the text -/
inductive Abs (P : Program) (gds : List (Option Nat)) : List Oper → S → S → Prop where
  | nil {s : S} : Abs P gds [] s s
  | cons {o : Oper} {l : List Oper} {s s' : S} {x : AV} : dstOk s.n o.dst → Yield P gds s.t s.m o x → Abs P gds l (s.put o.dst x) s' → Abs P gds (o :: l) s s'

def upd (t : List (Nat × AV)) (d : Option Nat) (x : AV) : List (Nat × AV) :=
  match d with
  | some k => (k, x) :: t
  | none => t

theorem S.put_eq (s : S) (d : Option Nat) (x : AV) : s.put d x = { s with t := upd s.t d x } := by cases d <;> rfl

/-- the temporaries behind those operations that L lists -/
def V : List (Oper × AV) → (Nat → Bool) → Nat → List (Nat × AV) → List (Nat × AV)
  | [], _, _, t => t
  | ox :: l, L, k, t => V l L (k + 1) (if L k then upd t ox.1.dst ox.2 else t)

theorem look_upd_ne {t : List (Nat × AV)} {d : Option Nat} {x : AV} {n : Nat} (h : d ≠ some n) : look (upd t d x) n = look t n := by
  cases d with
  | none => rfl
  | some k => simp only [upd, look]; rw [if_neg (fun e => h (by rw [e]))]
theorem look_upd_eq {t : List (Nat × AV)} {x : AV} {n : Nat} : look (upd t (some n) x) n = x := by simp [upd, look]

theorem V_congr {n : Nat} {L L' : Nat → Bool} : ∀ (l : List (Oper × AV)) (k : Nat) (t t' : List (Nat × AV)), look t n = look t' n →
    (∀ (j : Nat) (ox : Oper × AV), l[j]? = some ox → ox.1.dst = some n → L (k + j) = L' (k + j)) → look (V l L k t) n = look (V l L' k t') n
  | [], _, _, _, h, _ => h
  | ox :: l, k, t, t', h, hL => by
    refine V_congr l (k + 1) _ _ ?_ (fun j oy hj hd => by have := hL (j + 1) oy (by simpa using hj) hd; rw [show k + 1 + j = k + (j + 1) by omega]; exact this)
    by_cases hd : ox.1.dst = some n
    · have := hL 0 ox (by simp) hd
      simp only [Nat.add_zero] at this
      rw [← this]
      split
      · rw [hd, look_upd_eq, look_upd_eq]
      · exact h
    · split <;> split <;> simp only [look_upd_ne hd, h]

theorem V_all (l : List (Oper × AV)) (L : Nat → Bool) : ∀ (k : Nat) (t : List (Nat × AV)), (∀ j, j < l.length → L (k + j) = true) → V l L k t = l.foldl (fun t ox => upd t ox.1.dst ox.2) t := by
  induction l with
  | nil => intro k t _; rfl
  | cons ox l ih =>
    intro k t h
    have h0 := h 0 (by simp)
    simp only [Nat.add_zero] at h0
    simp only [V, h0, if_true, List.foldl_cons]
    exact ih (k + 1) _ fun j hj => by rw [show k + 1 + j = k + (j + 1) by omega]; exact h (j + 1) (by simpa using hj)

theorem V_none (l : List (Oper × AV)) (L : Nat → Bool) : ∀ (k : Nat) (t : List (Nat × AV)), (∀ j, j < l.length → L (k + j) = false) → V l L k t = t := by
  induction l with
  | nil => intro k t _; rfl
  | cons ox l ih =>
    intro k t h
    have h0 := h 0 (by simp)
    simp only [Nat.add_zero] at h0
    simp only [V, h0]
    exact ih (k + 1) _ fun j hj => by rw [show k + 1 + j = k + (j + 1) by omega]; exact h (j + 1) (by simpa using hj)

/-- what the last one of a prefix has laid -/
theorem V_last (l : List (Oper × AV)) : ∀ (k i : Nat) (t : List (Nat × AV)) (n : Nat) (o : Oper) (x : AV), l[i]? = some (o, x) → o.dst = some n → look (V l (fun j => decide (j < k + (i + 1))) k t) n = x := by
  induction l with
  | nil => intro k i t n o x h; simp at h
  | cons ox l ih =>
    intro k i t n o x h hd
    cases i with
    | zero =>
      simp at h; subst h
      simp only [V, hd]
      rw [V_none _ _ _ _ (fun j _ => by simp)]
      simp [upd, look]
    | succ i =>
      simp only [V]
      generalize (if decide (k < k + (i + 1 + 1)) = true then upd t ox.1.dst ox.2 else t) = t'
      have hf : (fun j => decide (j < k + (i + 1 + 1))) = (fun j => decide (j < k + 1 + (i + 1))) := by funext j; congr 1; apply propext; omega
      rw [hf]
      exact ih (k + 1) i t' n o x (by simpa using h) hd

/-- behind the first i operations -/
def upto (k i : Nat) (j : Nat) : Bool := decide (j < k + i)

theorem Abs.data {gds : List (Option Nat)} : ∀ {ops : List Oper} {s s' : S}, Abs P gds ops s s' → ∀ k : Nat, ∃ xs : List (Oper × AV), xs.map (·.1) = ops ∧ s' = { s with t := V xs (fun _ => true) k s.t } ∧
    ∀ (i : Nat) (ox : Oper × AV), xs[i]? = some ox → dstOk s.n ox.1.dst ∧ Yield P gds (V xs (upto k i) k s.t) s.m ox.1 ox.2
  | _, s, _, .nil, k => ⟨[], rfl, rfl, fun i ox h => by simp at h⟩
  | o :: l, s, s', .cons (x := x) h1 h2 h3, k => by
    obtain ⟨xs, e1, e2, e3⟩ := Abs.data h3 (k + 1)
    rw [S.put_eq] at e2 e3
    refine ⟨(o, x) :: xs, by simp [e1], by rw [e2]; simp [V], fun i ox hi => ?_⟩
    cases i with
    | zero =>
      simp at hi; subst hi
      refine ⟨h1, ?_⟩
      rw [V_none _ _ _ _ (fun j _ => by simp [upto])]
      exact h2
    | succ i =>
      obtain ⟨q1, q2⟩ := e3 i ox (by simpa using hi)
      refine ⟨q1, ?_⟩
      have : V ((o, x) :: xs) (upto k (i + 1)) k s.t = V xs (upto (k + 1) i) (k + 1) (upd s.t o.dst x) := by
        simp only [V]
        have h0 : upto k (i + 1) k = true := by simp [upto]
        rw [h0]
        have hf : upto k (i + 1) = upto (k + 1) i := by funext j; simp only [upto]; congr 1; apply propext; omega
        rw [hf]; rfl
      rw [this]; exact q2

def names (gds : List (Option Nat)) (o : Oper) : List Nat := gnames gds o.guard ++ onames o.op
def dep (o : Oper) (i : Nat) : Bool := o.after.any fun e => Region.binds .any e && e.on == i
def touches (gds : List (Option Nat)) (oi oj : Oper) : Bool :=
  (match oi.dst with | some d => (names gds oj).contains d || oj.dst == some d | none => false) || (match oj.dst with | some d => (names gds oi).contains d | none => false)

/-- among the first n: whoever touches another's temporary waits for it; edges go back -/
def ordB (gds : List (Option Nat)) (ops : List Oper) (n : Nat) : Bool :=
  (List.range n).all fun j => match ops[j]? with
    | some oj => (oj.after.all fun e => !Region.binds .any e || decide (e.on < j)) && (List.range j).all fun i => match ops[i]? with
      | some oi => !touches gds oi oj || dep oj i
      | none => true
    | none => true

theorem ordB_back {gds : List (Option Nat)} {ops : List Oper} {n j : Nat} {oj : Oper} (h : ordB gds ops n = true) (hj : j < n) (ho : ops[j]? = some oj) : ∀ e ∈ oj.after, Region.binds .any e = true → e.on < j := by
  intro e he hb
  have h1 := List.all_eq_true.1 h j (List.mem_range.2 hj)
  simp only [ho, Bool.and_eq_true] at h1
  have h2 := Array.all_eq_true'.1 h1.1 e he
  simpa [hb] using h2

theorem ordB_dep {gds : List (Option Nat)} {ops : List Oper} {n i j : Nat} {oi oj : Oper} (h : ordB gds ops n = true) (hj : j < n) (hij : i < j) (hoi : ops[i]? = some oi) (hoj : ops[j]? = some oj) (ht : touches gds oi oj = true) :
    ∃ e ∈ oj.after, Region.binds .any e = true ∧ e.on = i := by
  have h1 := List.all_eq_true.1 h j (List.mem_range.2 hj)
  simp only [hoj, Bool.and_eq_true] at h1
  have h2 := List.all_eq_true.1 h1.2 i (List.mem_range.2 hij)
  simp only [hoi, ht, Bool.not_true, Bool.false_or, dep] at h2
  obtain ⟨e, he, hb⟩ := Array.any_eq_true'.1 h2
  simp only [Bool.and_eq_true, beq_iff_eq] at hb
  exact ⟨e, he, hb.1, hb.2⟩

theorem wpAnyIn_of_seq {F : Fence} {n : Nat} {ops : Array Oper} {md : Region.Mode} {Q' : Exit → Act → World → Prop} : ∀ (l : List Oper) (k : Nat) (listed : Array Bool) (a : Act) (w : World), (∀ j, l[j]? = ops[k + j]?) →
    Region.seqB md ops l.length k listed = true → wpListIn F n P ops Q' l a w → wpAnyIn F n P md ops Q' l.length listed a w
  | [], _, _, _, _, _, hB, h => ⟨by simpa [Region.seqB] using hB, h⟩
  | o :: l, k, listed, a, w, hl, hB, h => by
    have h0 : ops[k]? = some o := by simpa using (hl 0).symm
    simp only [List.length_cons, Region.seqB, Bool.and_eq_true, decide_eq_true_eq] at hB
    refine ⟨fun h1 => (by rw [hB.1] at h1; cases h1), fun i hi => ?_⟩
    rw [hB.1] at hi
    have hik : i = k := by simpa using hi
    subst hik
    have hw : wpOpIn F n P ops Q' i (wpListIn F n P ops Q' l) a w := by unfold wpOpIn; simp only [h0]; exact h
    exact wpOpIn_mono (fun a' w' h' => wpAnyIn_of_seq l (i + 1) _ a' w' (fun j => by have := hl (j + 1); simpa [Nat.add_assoc, Nat.add_comm 1 j] using this) hB.2 h') hw

def cnt (listed : Array Bool) : Nat → Nat
  | 0 => 0
  | n + 1 => cnt listed n + if listed.getD n true = false then 1 else 0

theorem cnt_other {listed : Array Bool} {i : Nat} : ∀ n, n ≤ i → cnt (listed.setIfInBounds i true) n = cnt listed n
  | 0, _ => rfl
  | n + 1, h => by simp only [cnt]; rw [cnt_other n (by omega), getD_set_ne true (by omega)]

theorem cnt_set {listed : Array Bool} {i : Nat} (hi : listed.getD i true = false) : ∀ n, i < n → cnt (listed.setIfInBounds i true) n + 1 = cnt listed n
  | 0, h => by omega
  | n + 1, h => by
    have hlt : i < listed.size := by
      rcases Nat.lt_or_ge i listed.size with h' | h'
      · exact h'
      · simp [Array.getElem?_eq_none h'] at hi
    simp only [cnt]
    by_cases hin : i = n
    · subst hin
      rw [cnt_other i (Nat.le_refl _)]
      have : (listed.setIfInBounds i true).getD i true = true := by simp [hlt]
      simp [this, hi]
    · have := cnt_set hi n (by omega)
      rw [getD_set_ne true hin]
      omega

theorem cnt_zero {listed : Array Bool} : ∀ {n : Nat}, cnt listed n = 0 → ∀ i, i < n → listed.getD i true = true
  | 0, _, i, h => by omega
  | n + 1, h, i, hi => by
    simp only [cnt] at h
    by_cases hin : i = n
    · subst hin
      cases hl : listed.getD i true with
      | true => rfl
      | false => simp [hl] at h
    · exact cnt_zero (n := n) (by omega) i (by omega)

theorem cnt_pos {listed : Array Bool} : ∀ {n : Nat}, 0 < cnt listed n → ∃ i, i < n ∧ listed.getD i true = false ∧ ∀ j, j < i → listed.getD j true = true
  | 0, h => by simp [cnt] at h
  | n + 1, h => by
    by_cases h0 : 0 < cnt listed n
    · obtain ⟨i, h1, h2, h3⟩ := cnt_pos h0
      exact ⟨i, by omega, h2, h3⟩
    · simp only [cnt] at h
      have hz : cnt listed n = 0 := by omega
      refine ⟨n, by omega, ?_, fun j hj => cnt_zero hz j hj⟩
      cases hl : listed.getD n true with
      | false => rfl
      | true => simp [hl] at h; omega

/-- the check that is asked of a region that draws: the first n operations in any order, the rest behind them in the order of the text -/
def drawB (gds : List (Option Nat)) (ops : List Oper) (n : Nat) : Bool :=
  ordB gds ops n && decide (n ≤ ops.length) &&
  (decide (n = ops.length) || (Region.sinkB .any ops.toArray n && Region.chainB .any ops.toArray n)) &&
  Region.seqB .any ops.toArray (ops.length - n) n ((List.replicate n true ++ List.replicate (ops.length - n) false).toArray)

theorem getD_true_of {listed : Array Bool} {i : Nat} (hi : i < listed.size) (h : listed.getD i true = true) : listed.getD i false = true := by
  simp [hi] at h ⊢; exact h

theorem Inv.same {w w' : World} {m : Mem} (hi : Inv X w ρ m) (h : w'.heap = w.heap) : Inv X w' ρ m := by
  have hk : Kp X w ρ w' ρ := ⟨fun _ r h => ⟨r, h, Nat.le_refl _, fun _ => rfl⟩, fun b hb _ => ⟨hb, by rw [h]⟩⟩
  refine ⟨hi.len, fun i r e hr he => ?_, hi.apart, fun i r b hr hb => by rw [h]; exact hi.new i r b hr hb, fun b hb => by rw [h]; exact hi.out b hb, hi.gd.mono fun b _ => by rw [h]⟩
  obtain ⟨h1, h2⟩ := hi.at_ i r e hr he
  exact ⟨h1, h2.mono hk fun b _ => by rw [h]⟩

theorem drawn {id : Nat} {ops : List Oper} {gds : List (Option Nat)} (hg : gds = ops.map (·.dst)) (n : Nat) (hm : P.follows .mixedOrders = true) (hB : drawB gds ops n = true) {s s1 : S} (hgo : gdsOk gds s.n) (habs : Abs P gds (ops.take n) s s1)
    {Q : S → Prop} (htail : RunL P gds (ops.drop n) Q s1) {r : Option Nat} {a : Act} {w : World} {ρ : Rho} (hr : Rel X s a w ρ) {Q' : Exit → Act → World → Prop}
    (hQ : ∀ s' a' w' ρ', Q s' → Rel X s' a' w' ρ' → Tr w ρ w' ρ' → Q' .normal a' w') : (Code.region id ops.toArray true).wpIn (fence r) 0 P Q' a w := by
  simp only [drawB, Bool.and_eq_true, decide_eq_true_eq, Bool.or_eq_true] at hB
  obtain ⟨⟨⟨hord, hn⟩, hsink⟩, hseq⟩ := hB
  obtain ⟨xs, hxs, hs1, hy⟩ := habs.data 0
  have hxl : xs.length = n := by have := congrArg List.length hxs; simp at this; omega
  have hops : ∀ (i : Nat) (o : Oper), i < n → ops[i]? = some o → ∃ x, xs[i]? = some (o, x) := by
    intro i o hi ho
    have h1 : (xs.map (·.1))[i]? = some o := by rw [hxs]; simp [hi, ho]
    rw [List.getElem?_map] at h1
    cases hx : xs[i]? with
    | none => simp [hx] at h1
    | some ox => simp [hx] at h1; exact ⟨ox.2, by rw [← h1]⟩
  have hops' : ∀ (i : Nat) (ox : Oper × AV), xs[i]? = some ox → i < n ∧ ops[i]? = some ox.1 := by
    intro i ox hx
    have hi : i < n := by rw [← hxl]; exact (List.getElem?_eq_some_iff.1 hx).1
    refine ⟨hi, ?_⟩
    have h1 : (xs.map (·.1))[i]? = some ox.1 := by simp [hx]
    rw [hxs] at h1
    simpa [hi] using h1
  -- the head, in any order
  have head : ∀ (f : Nat) (listed : Array Bool) (a : Act) (w1 : World), HeadInv .any ops.toArray n listed → cnt listed n = f → Rel X { s with t := V xs (fun j => listed.getD j false) 0 s.t } a w1 ρ → Tr w ρ w1 ρ →
      wpAnyIn (fence r) 0 P .any ops.toArray Q' (f + (ops.length - n)) listed a w1 := by
    intro f
    induction f with
    | zero =>
      intro listed a w1 inv hc hrel htr
      have hall := cnt_zero hc
      have hl0 : listed = (List.replicate n true ++ List.replicate (ops.length - n) false).toArray := by
        apply Array.ext'
        apply List.ext_getElem?
        intro i
        have hsz := inv.size
        simp only [List.size_toArray] at hsz
        have hnl : n + (ops.length - n) = ops.length := by omega
        by_cases h1 : i < n
        · have := hall i h1
          rw [List.getElem?_append_left (by simpa using h1)]
          have hlt : i < listed.size := by omega
          simp [hlt] at this
          simp [h1, hlt, this]
        · by_cases h2 : i < ops.length
          · have := inv.tail i (by omega) (by simpa using h2)
            have hlt : i < listed.size := by omega
            simp [hlt] at this
            rw [List.getElem?_append_right (by simp; omega)]
            rw [List.getElem?_replicate, List.length_replicate, if_pos (by omega)]
            simp [hlt, this]
          · rw [List.getElem?_append_right (by simp; omega)]
            have hlt : ¬ i < listed.size := by omega
            rw [List.getElem?_replicate, List.length_replicate, if_neg (by omega)]
            simp; omega
      have hrel' : Rel X s1 a w1 ρ := by
        rw [hs1]
        rw [V_all xs _ 0 s.t (fun j hj => by rw [Nat.zero_add]; exact getD_true_of (by have := inv.size; simp at this; omega) (hall j (by omega)))] at hrel
        rw [V_all xs _ 0 s.t (fun j hj => rfl)]
        exact hrel
      have hl := RunL.sound (P := P) (ops := ops.toArray) (gds := gds) (by simpa using hg) (r := r) (Q' := Q') (ops.drop n) s1 a w1 ρ htail hrel'
        (fun s' a' w' ρ' q1 q2 q3 => hQ s' a' w' ρ' q1 q2 (htr.trans q3))
      have hlen : (ops.drop n).length = ops.length - n := by simp
      rw [Nat.zero_add, ← hlen]
      exact wpAnyIn_of_seq (ops.drop n) n listed a w1 (fun j => by simp) (by rw [hlen, hl0]; exact hseq) hl
    | succ f ih =>
      intro listed a w1 inv hc hrel htr
      have hsz : listed.size = ops.length := by have := inv.size; simpa using this
      obtain ⟨i0, hi0, hun0, hlow⟩ := cnt_pos (listed := listed) (n := n) (by omega)
      have hi0N : i0 < ops.length := by omega
      have hready0 : i0 ∈ Region.ready .any ops.toArray listed := by
        rw [mem_ready]
        refine ⟨hun0, ops[i0], by simp [hi0N], fun e he hb => ?_⟩
        have := ordB_back hord hi0 (List.getElem?_eq_getElem hi0N) e he hb
        exact getD_true_of (by omega) (hlow e.on this)
      rw [show f + 1 + (ops.length - n) = (f + (ops.length - n)) + 1 by omega]
      refine ⟨fun h0 => (by rw [h0] at hready0; cases hready0), fun i hi => ?_⟩
      have hin : i < n := by
        rcases Nat.lt_or_ge i n with h | h
        · exact h
        · exfalso
          rcases hsink with hsink | ⟨hs, hc'⟩
          · obtain ⟨_, oi, hoi, _⟩ := mem_ready.1 hi
            have := (Array.getElem?_eq_some_iff.1 hoi).1
            simp at this; omega
          · rcases Nat.lt_or_ge n ops.length with hnl | hnl
            · exact tail_waits hs hc' (by simpa using hnl) inv _ i0 rfl hi0 hun0 i h hi
            · obtain ⟨_, oi, hoi, _⟩ := mem_ready.1 hi
              have := (Array.getElem?_eq_some_iff.1 hoi).1
              simp at this; omega
      obtain ⟨hun, oi, hoi, hall⟩ := mem_ready.1 hi
      have hoi' : ops[i]? = some oi := by simpa using hoi
      obtain ⟨x, hx⟩ := hops i oi hin hoi'
      obtain ⟨hdst, hyield⟩ := hy i (oi, x) hx
      have hdst : dstOk s.n oi.dst := hdst
      have hyield : Yield P gds (V xs (upto 0 i) 0 s.t) s.m oi x := hyield
      -- an operation that touches oi's names or temporary is listed just if it stands before
      have agree : ∀ (k : Nat), (k ∈ names gds oi ∨ oi.dst = some k) → ∀ (j : Nat) (ox : Oper × AV), xs[j]? = some ox → ox.1.dst = some k → j ≠ i → listed.getD j false = decide (j < i) := by
        intro k hk j ox hj hd hji
        obtain ⟨hjn, hoj⟩ := hops' j ox hj
        rcases Nat.lt_or_ge j i with hlt | hge
        · have ht : touches gds ox.1 oi = true := by
            simp only [touches, hd, Bool.or_eq_true, beq_iff_eq]
            left
            rcases hk with hk | hk
            · left; simpa using hk
            · right; exact hk
          obtain ⟨e, he, hb, hon⟩ := ordB_dep hord hin hlt hoj hoi' ht
          have := hall e he hb
          rw [hon] at this
          simp [this, hlt]
        · have hlt : i < j := by omega
          have ht : touches gds oi ox.1 = true := by
            simp only [touches, hd, Bool.or_eq_true]
            rcases hk with hk | hk
            · right; simpa using hk
            · left; rw [hk]; simp
          obtain ⟨e, he, hb, hon⟩ := ordB_dep hord hjn hlt hoi' hoj ht
          cases hlj : listed.getD j false with
          | false => simp; omega
          | true =>
            have := inv.closed j ox.1 (by simpa using hoj) hlj e he hb
            rw [hon, getD_both hun] at this
            cases this
      have hnames : ∀ k, k ∈ gnames gds oi.guard ∨ k ∈ onames oi.op → R X w1 ρ (look (V xs (upto 0 i) 0 s.t) k) (a.tmps.getD k undef) := by
        intro k hk
        have hk' : k ∈ names gds oi := by simp only [names, List.mem_append]; exact hk
        have e1 : look (V xs (upto 0 i) 0 s.t) k = look (V xs (fun j => listed.getD j false) 0 s.t) k := by
          refine V_congr xs 0 _ _ rfl fun j ox hj hd => ?_
          simp only [Nat.zero_add, upto]
          by_cases hji : j = i
          · subst hji
            rw [getD_both hun]; simp
          · exact (agree k (.inl hk') j ox hj hd hji).symm
        rw [e1]; exact hrel.tmps k
      obtain ⟨k1, k2⟩ := hyield.2 X w1 ρ a hrel.inv hnames (fun k hk => by have := hrel.size; simp only at this; rw [this]; exact gnames_lt hgo oi.guard k hk)
      -- the new list
      have next : ∀ (v : Value) (w2 : World), R X w2 ρ x v → Inv X w2 ρ s.m → Tr w1 ρ w2 ρ → wpAnyIn (fence r) 0 P .any ops.toArray Q' (f + (ops.length - n)) (listed.setIfInBounds i true) (a.put oi.dst v) w2 := by
        intro v w2 hxv hinv htr2
        refine ih _ _ _ (inv.set hi hin) (by have := cnt_set hun n hin; omega) ?_ (htr.trans htr2)
        have hrel2 := hrel.step htr2 (m' := s.m) hinv
        have hrel3 := hrel2.put (d := oi.dst) (x := x) (v := v) hdst hxv
        rw [S.put_eq] at hrel3
        refine ⟨fun k => ?_, hrel3.size, hrel3.inv, hrel3.defers⟩
        · have h3 := hrel3.tmps k
          have e1 : look (V xs (fun j => (listed.setIfInBounds i true).getD j false) 0 s.t) k = look (upd (V xs (fun j => listed.getD j false) 0 s.t) oi.dst x) k := by
            have hset : ∀ j, j ≠ i → (listed.setIfInBounds i true).getD j false = listed.getD j false := fun j hj => getD_set_ne false (Ne.symm hj)
            have hseti : (listed.setIfInBounds i true).getD i false = true := by
              have : i < listed.size := by omega
              simp [this]
            by_cases hd : oi.dst = some k
            · rw [hd, look_upd_eq]
              have e2 : look (V xs (fun j => (listed.setIfInBounds i true).getD j false) 0 s.t) k = look (V xs (upto 0 (i + 1)) 0 s.t) k := by
                refine V_congr xs 0 _ _ rfl fun j ox hj hdj => ?_
                simp only [Nat.zero_add, upto]
                by_cases hji : j = i
                · subst hji; rw [hseti]; simp
                · rw [hset j hji, agree k (.inr hd) j ox hj hdj hji]
                  congr 1; apply propext; omega
              rw [e2]
              exact V_last xs 0 i s.t k oi x hx hd
            · rw [look_upd_ne hd]
              refine V_congr xs 0 _ _ rfl fun j ox hj hdj => ?_
              simp only [Nat.zero_add]
              refine hset j fun hji => ?_
              subst hji
              rw [hx] at hj
              cases hj
              exact hd hdj
          rw [e1]; exact h3
      unfold wpOpIn
      simp only [hoi]
      have hyg : yieldedG gds a.tmps = yielded ops.toArray a.tmps := by rw [← yieldedG_eq]; simp [hg]
      rw [← hyg]
      split
      · rename_i hw
        exact gives_wpIn hyield.1 (k1 hw) fun v w' ⟨q1, q2, q3⟩ => next v w' q1 q2 q3
      · rename_i hw
        exact ⟨fun _ _ => trivial, next undef w1 (k2 (by simpa using hw)) hrel.inv (Tr.refl _ _)⟩
  refine wpIn_region_any hm ?_
  have hdrew : Tr w ρ { w with drawn := w.drawn + 1 } ρ := ⟨rfl, rfl, rfl, Nat.le_refl _, fun _ r h => ⟨r, h, Nat.le_refl _, fun _ => rfl⟩, fun _ h _ => ⟨h, rfl⟩⟩
  have hrel0 : Rel X { s with t := V xs (fun j => (Array.replicate ops.length false).getD j false) 0 s.t } a { w with drawn := w.drawn + 1 } ρ := by
    rw [V_none xs _ 0 s.t (fun j _ => by rw [Nat.zero_add]; exact getD_replicate_false _ _)]
    have hi : Inv X { w with drawn := w.drawn + 1 } ρ s.m := hr.inv.same rfl
    exact hr.step hdrew hi
  have inv0 : HeadInv .any ops.toArray n (Array.replicate ops.length false) :=
    ⟨by simp, fun j oj _ hl => (by rw [getD_replicate_false] at hl; cases hl), fun t _ ht => getD_in (by simpa using ht) (getD_replicate_false _ _)⟩
  have hcnt : ∀ k, k ≤ ops.length → cnt (Array.replicate ops.length false) k = k := by
    intro k
    induction k with
    | zero => intro _; rfl
    | succ k ih =>
      intro hk
      simp only [cnt]
      rw [ih (by omega)]
      have : (Array.replicate ops.length false).getD k true = false := getD_in (by simp; omega) (getD_replicate_false _ _)
      simp [this]
  have := head n _ a _ inv0 (hcnt n hn) hrel0 hdrew
  rw [show n + (ops.length - n) = ops.length by omega] at this
  simpa using this
end Go.Vg
