/- A part of the proof of StoreSafe: contracts of functions, with plain laws that they need. -/
import Derived.Test.YtljchlkmalidnaaVgA
set_option linter.all false
set_option linter.unusedVariables false
set_option linter.unusedSimpArgs false
namespace Go.Vg

/-! counting, in general -/
def sgN : Nat → (Nat → Nat) → Nat
  | 0, _ => 0
  | n + 1, f => sgN n f + f n

theorem sgN_congr {n : Nat} {f g : Nat → Nat} (h : ∀ i, i < n → f i = g i) : sgN n f = sgN n g := by
  induction n with
  | zero => rfl
  | succ n ih => rw [sgN, sgN, ih (fun i hi => h i (by omega)), h n (by omega)]

theorem sgN_zero (n : Nat) : sgN n (fun _ => 0) = 0 := by
  induction n with
  | zero => rfl
  | succ n ih => rw [sgN, ih]

theorem sgN_add (n : Nat) (f g : Nat → Nat) : sgN n (fun i => f i + g i) = sgN n f + sgN n g := by
  induction n with
  | zero => rfl
  | succ n ih => rw [sgN, sgN, sgN, ih]; omega

theorem sgN_swap (n m : Nat) (f : Nat → Nat → Nat) : sgN n (fun i => sgN m (f i)) = sgN m (fun j => sgN n (fun i => f i j)) := by
  induction n with
  | zero => simp only [sgN]; exact (sgN_zero m).symm
  | succ n ih => simp only [sgN]; rw [ih, sgN_add]

theorem sgN_mul (n : Nat) (f : Nat → Nat) (c : Nat) : sgN n (fun i => f i * c) = sgN n f * c := by
  induction n with
  | zero => simp [sgN]
  | succ n ih => rw [sgN, sgN, ih, Nat.add_mul]

theorem sgN_le {n m : Nat} {f : Nat → Nat} (h : ∀ i, i < n → f i ≤ m) : sgN n f ≤ n * m := by
  induction n with
  | zero => simp [sgN]
  | succ n ih => rw [sgN, Nat.succ_mul]; have := ih (fun i hi => h i (by omega)); have := h n (by omega); omega

section
variable {L : Type} (kd : L → Nat) (it : Nat → Nat) (ok : L → List L → Bool)

/-- the loans of each item, one more -/
def updS (st : Nat → Nat → List L) (k j : Nat) (l : L) : Nat → Nat → List L := fun k' j' => if k' = k ∧ j' = j then l :: st k' j' else st k' j'

theorem updS_at {st : Nat → Nat → List L} {k j : Nat} {l : L} : updS st k j l k j = l :: st k j := by simp [updS]

theorem updS_ne {st : Nat → Nat → List L} {k j k' j' : Nat} {l : L} (h : ¬(k' = k ∧ j' = j)) : updS st k j l k' j' = st k' j' := by simp [updS, h]

/-- in how many ways the loans can be lent -/
def cnK : List L → (Nat → Nat → List L) → Nat
  | [], _ => 1
  | l :: ls, st => sgN (it (kd l)) (fun j => if ok l (st (kd l) j) then cnK ls (updS st (kd l) j l) else 0)

variable {kd it ok}

theorem cnK_perm (hp : ∀ l s s', s.Perm s' → ok l s = ok l s') : ∀ (ls : List L) (st st' : Nat → Nat → List L), (∀ k j, (st k j).Perm (st' k j)) → cnK kd it ok ls st = cnK kd it ok ls st'
  | [], _, _, _ => rfl
  | l :: ls, st, st', h => by
    rw [cnK, cnK]
    refine sgN_congr fun j _ => ?_
    rw [hp l _ _ (h (kd l) j), cnK_perm hp ls (updS st (kd l) j l) (updS st' (kd l) j l)]
    intro k' j'
    unfold updS
    split
    · exact (h k' j').cons l
    · exact h k' j'

theorem cnK_swap (hp : ∀ l s s', s.Perm s' → ok l s = ok l s') {a b : L} (hs : kd b = kd a → ∀ s, (ok a s && ok b (a :: s)) = (ok b s && ok a (b :: s))) (ls : List L) (st : Nat → Nat → List L) :
    cnK kd it ok (a :: b :: ls) st = cnK kd it ok (b :: a :: ls) st := by
  have e : ∀ (a b : L), cnK kd it ok (a :: b :: ls) st = sgN (it (kd a)) (fun i => sgN (it (kd b)) (fun j => if (ok a (st (kd a) i) && ok b (updS st (kd a) i a (kd b) j)) = true then cnK kd it ok ls (updS (updS st (kd a) i a) (kd b) j b) else 0)) := by
    intro a b
    rw [cnK]
    refine sgN_congr fun i _ => ?_
    rw [cnK]
    cases ok a (st (kd a) i) with
    | true => simp
    | false => simp [sgN_zero]
  rw [e a b, e b a, sgN_swap]
  refine sgN_congr fun j _ => sgN_congr fun i _ => ?_
  by_cases c : kd b = kd a ∧ j = i
  · obtain ⟨c1, c2⟩ := c
    subst c2
    rw [c1, updS_at, updS_at, hs c1]
    split
    · refine cnK_perm hp _ _ _ fun k' j' => ?_
      unfold updS
      split
      · exact List.Perm.swap _ _ _
      · exact List.Perm.refl _
    · rfl
  · rw [updS_ne c, updS_ne (k' := kd a) (j' := i) (k := kd b) (j := j) (fun h => c ⟨h.1.symm, h.2.symm⟩), Bool.and_comm]
    split
    · refine congrArg _ (funext fun k' => funext fun j' => ?_)
      unfold updS
      by_cases p : k' = kd b ∧ j' = j
      · have q : ¬(k' = kd a ∧ j' = i) := fun q => c ⟨p.1.symm.trans q.1, p.2.symm.trans q.2⟩
        rw [if_pos p, if_neg q, if_neg q, if_pos p]
      · by_cases q : k' = kd a ∧ j' = i
        · rw [if_neg p, if_pos q, if_pos q, if_neg p]
        · rw [if_neg p, if_neg q, if_neg q, if_neg p]
    · rfl

theorem cnK_cons (l : L) {ls ls' : List L} (h : ∀ st, cnK kd it ok ls st = cnK kd it ok ls' st) (st : Nat → Nat → List L) : cnK kd it ok (l :: ls) st = cnK kd it ok (l :: ls') st := by
  rw [cnK, cnK]
  refine sgN_congr fun j _ => ?_
  rw [h]

theorem cnK_order (hp : ∀ l s s', s.Perm s' → ok l s = ok l s') {V : L → Prop} (hs : ∀ a b, V a → V b → kd b = kd a → ∀ s, (ok a s && ok b (a :: s)) = (ok b s && ok a (b :: s))) {ls ls' : List L} (h : ls.Perm ls') (hv : ∀ l ∈ ls, V l) (st : Nat → Nat → List L) : cnK kd it ok ls st = cnK kd it ok ls' st := by
  induction h generalizing st with
  | nil => rfl
  | cons l _ ih => exact cnK_cons l (fun st => ih (fun x hx => hv x (by simp [hx])) st) st
  | swap a b ls => exact cnK_swap hp (hs b a (hv b (by simp)) (hv a (by simp))) ls st
  | trans h1 _ ih1 ih2 => rw [ih1 hv st, ih2 (fun x hx => hv x (h1.mem_iff.2 hx)) st]

theorem cnK_same {ok' : L → List L → Bool} : ∀ (ls : List L), (∀ l ∈ ls, ∀ s, ok l s = ok' l s) → ∀ st : Nat → Nat → List L, cnK kd it ok ls st = cnK kd it ok' ls st
  | [], _, _ => rfl
  | l :: ls, h, st => by
    rw [cnK, cnK]
    refine sgN_congr fun j _ => ?_
    rw [h l (by simp), cnK_same ls (fun x hx => h x (by simp [hx]))]

theorem cnK_loc : ∀ (ls : List L) (st st' : Nat → Nat → List L), (∀ l ∈ ls, ∀ j, st (kd l) j = st' (kd l) j) → cnK kd it ok ls st = cnK kd it ok ls st'
  | [], _, _, _ => rfl
  | l :: ls, st, st', h => by
    rw [cnK, cnK]
    refine sgN_congr fun j _ => ?_
    rw [h l (by simp) j, cnK_loc ls (updS st (kd l) j l) (updS st' (kd l) j l)]
    intro x hx j'
    unfold updS
    rw [h x (by simp [hx]) j']

theorem cnK_app {B : List L} : ∀ (A : List L) (st : Nat → Nat → List L), (∀ a ∈ A, ∀ b ∈ B, kd b ≠ kd a) → cnK kd it ok (A ++ B) st = cnK kd it ok A st * cnK kd it ok B st
  | [], st, _ => by rw [List.nil_append, cnK, Nat.one_mul]
  | a :: A, st, h => by
    rw [List.cons_append, cnK, cnK, ← sgN_mul]
    refine sgN_congr fun j _ => ?_
    rw [cnK_app A _ (fun x hx => h x (by simp [hx]))]
    rw [cnK_loc B (updS st (kd a) j a) st (fun l hl j' => updS_ne (fun q => h a (by simp) l hl q.1))]
    split
    · rfl
    · rw [Nat.zero_mul]

theorem cnK_le {m : Nat} : ∀ (ls : List L) , (∀ l ∈ ls, it (kd l) ≤ m) → ∀ st, cnK kd it ok ls st ≤ m ^ ls.length
  | [], _, _ => by simp [cnK]
  | l :: ls, h, st => by
    rw [cnK, List.length_cons, Nat.pow_succ]
    refine Nat.le_trans (sgN_le (m := m ^ ls.length) fun j _ => ?_) ?_
    · split
      · exact cnK_le ls (fun x hx => h x (by simp [hx])) _
      · omega
    · rw [Nat.mul_comm]; exact Nat.mul_le_mul_left _ (h l (by simp))
end

/-! sums over a list: each element with the others -/
section
variable {α : Type}
def sumL (G : α → List α → Nat) : List α → Nat
  | [] => 0
  | x :: s => G x s + sumL (fun y r => G y (x :: r)) s

theorem sumL_congr {G H : α → List α → Nat} {s : List α} (h : ∀ x r, (x :: r).Perm s → G x r = H x r) : sumL G s = sumL H s := by
  induction s generalizing G H with
  | nil => rfl
  | cons x s ih =>
    rw [sumL, sumL, h x s (List.Perm.refl _), ih]
    intro y r hr
    exact h y (x :: r) ((List.Perm.swap x y r).trans (hr.cons x))

theorem sumL_perm {s s' : List α} (h : s.Perm s') : ∀ (G : α → List α → Nat), (∀ x r r', r.Perm r' → G x r = G x r') → sumL G s = sumL G s' := by
  induction h with
  | nil => intro G _; rfl
  | cons x h ih => intro G hG; rw [sumL, sumL, hG x _ _ h, ih (fun y r => G y (x :: r)) (fun y r r' hr => hG y _ _ (hr.cons x))]
  | swap a b s =>
    intro G hG
    rw [sumL, sumL, sumL, sumL, sumL_congr (G := fun y r => G y (b :: a :: r)) (H := fun y r => G y (a :: b :: r)) (fun y r _ => hG y _ _ (List.Perm.swap _ _ _))]
    omega
  | trans h1 _ ih1 ih2 => intro G hG; rw [ih1 G hG, ih2 G hG]

theorem sgN_front (n : Nat) (f : Nat → Nat) : sgN (n + 1) f = f 0 + sgN n (fun i => f (i + 1)) := by
  induction n with
  | zero => simp [sgN]
  | succ n ih => rw [sgN, ih, sgN]; omega

theorem sgN_sumL (d : α) (G : α → List α → Nat) (s : List α) : sgN s.length (fun k => G (s.getD k d) (s.eraseIdx k)) = sumL G s := by
  induction s generalizing G with
  | nil => rfl
  | cons x s ih =>
    rw [List.length_cons, sgN_front, sumL]
    simp only [List.getD_cons_zero, List.eraseIdx_cons_zero, List.getD_cons_succ, List.eraseIdx_cons_succ]
    rw [ih (fun y r => G y (x :: r))]

theorem set_perm {s : List α} {k : Nat} (h : k < s.length) (v : α) : (s.set k v).Perm (v :: s.eraseIdx k) := by
  induction s generalizing k with
  | nil => simp at h
  | cons x s ih =>
    cases k with
    | zero => exact List.Perm.refl _
    | succ k => exact ((ih (by simpa using h)).cons x).trans (List.Perm.swap _ _ _)
end
section
variable {L : Type} {fr to us : L → Int} {life : Int} {kd : L → Nat} {it : Nat → Nat}

def usC (us : L → Int) : List L → Int
  | [] => 0
  | x :: s => us x + usC us s
/-- no loan of s is at the same time, and the item isn't used too often -/
def okC (fr to us : L → Int) (life : Int) (l : L) (s : List L) : Bool := (s.all fun x => !(decide (fr x < to l) && decide (fr l < to x))) && decide (usC us s + us l ≤ life)

theorem usC_perm {s s' : List L} (h : s.Perm s') : usC us s = usC us s' := by
  induction h with
  | nil => rfl
  | cons x _ ih => rw [usC, usC, ih]
  | swap a b s => simp only [usC]; omega
  | trans _ _ h1 h2 => rw [h1, h2]

theorem all_perm {s s' : List L} (h : s.Perm s') (p : L → Bool) : s.all p = s'.all p := by
  rw [Bool.eq_iff_iff, List.all_eq_true, List.all_eq_true]
  exact ⟨fun q x hx => q x (h.mem_iff.2 hx), fun q x hx => q x (h.mem_iff.1 hx)⟩

theorem okC_perm (l : L) (s s' : List L) (h : s.Perm s') : okC fr to us life l s = okC fr to us life l s' := by
  unfold okC
  rw [all_perm h, usC_perm h]

theorem okC_swap (a b : L) (ha : 0 ≤ us a) (hb : 0 ≤ us b) (s : List L) : (okC fr to us life a s && okC fr to us life b (a :: s)) = (okC fr to us life b s && okC fr to us life a (b :: s)) := by
  unfold okC
  simp only [List.all_cons, usC]
  rw [Bool.eq_iff_iff]
  simp only [Bool.and_eq_true, decide_eq_true_eq, Bool.not_eq_true', Bool.and_eq_false_iff, decide_eq_false_iff_not]
  constructor
  · rintro ⟨⟨h1, h2⟩, ⟨h3, h4⟩, h5⟩
    have h5 := of_decide_eq_true h5
    refine ⟨⟨h4, ?_⟩, ⟨h3.symm, h1⟩, decide_eq_true ?_⟩ <;> omega
  · rintro ⟨⟨h1, h2⟩, ⟨h3, h4⟩, h5⟩
    have h5 := of_decide_eq_true h5
    refine ⟨⟨h4, ?_⟩, ⟨h3.symm, h1⟩, decide_eq_true ?_⟩ <;> omega

/-- in how many ways the loans can be lent, items alone by until when they are lent and how often they were used -/
def gS (fr to us : L → Int) (life : Int) : List L → List (Int × Int) → Nat
  | [], _ => 1
  | l :: ls, s => sumL (fun x r => if x.1 ≤ fr l ∧ x.2 + us l ≤ life then gS fr to us life ls ((to l, x.2 + us l) :: r) else 0) s

theorem gS_perm : ∀ (ls : List L) {s s' : List (Int × Int)}, s.Perm s' → gS fr to us life ls s = gS fr to us life ls s'
  | [], _, _, _ => rfl
  | l :: ls, s, s', h => by
    rw [gS, gS]
    refine sumL_perm h _ fun x r r' hr => ?_
    rw [gS_perm ls (hr.cons _)]

theorem gS_cons (l : L) (ls : List L) (s : List (Int × Int)) : gS fr to us life (l :: ls) s = sgN s.length fun k => if (s.getD k (0, 0)).1 ≤ fr l ∧ (s.getD k (0, 0)).2 + us l ≤ life then gS fr to us life ls (s.set k (to l, (s.getD k (0, 0)).2 + us l)) else 0 := by
  rw [gS, ← sgN_sumL (0, 0)]
  refine sgN_congr fun k hk => ?_
  rw [gS_perm ls (set_perm hk _)]

def mxT (to : L → Int) : List L → Int
  | [] => 0
  | x :: s => max (to x) (mxT to s)
def shL (to us : L → Int) (f : Nat → List L) (n : Nat) : List (Int × Int) := (List.range n).map fun j => (mxT to (f j), usC us (f j))

theorem shL_len (f : Nat → List L) (n : Nat) : (shL to us f n).length = n := by simp [shL]
theorem shL_at (f : Nat → List L) {n j : Nat} (h : j < n) : (shL to us f n).getD j (0, 0) = (mxT to (f j), usC us (f j)) := by simp [shL, h]

theorem mxT_le {f : Int} (h0 : 0 ≤ f) : ∀ s : List L, mxT to s ≤ f ↔ ∀ x ∈ s, to x ≤ f
  | [] => by simp [mxT, h0]
  | x :: s => by
    have := mxT_le h0 s
    simp only [mxT, List.mem_cons, forall_eq_or_imp]
    rw [← this]; omega

/-- what a loan of the list says -/
structure LV (fr to us : L → Int) (l : L) : Prop where
  f0 : 0 ≤ fr l
  ft : fr l < to l
  u0 : 0 ≤ us l

def Asc (fr : L → Int) : List L → Prop
  | [] => True
  | l :: ls => (∀ x ∈ ls, fr l ≤ fr x) ∧ Asc fr ls

theorem okC_sh {l : L} (hl : LV fr to us l) {s : List L} (hs : ∀ x ∈ s, fr x ≤ fr l) : okC fr to us life l s = (decide (mxT to s ≤ fr l) && decide (usC us s + us l ≤ life)) := by
  unfold okC
  congr 1
  rw [Bool.eq_iff_iff, List.all_eq_true, decide_eq_true_eq, mxT_le hl.f0]
  have := hl.ft
  constructor
  · intro h x hx
    have h1 := h x hx
    have h2 := hs x hx
    simp only [Bool.not_eq_true', Bool.and_eq_false_iff, decide_eq_false_iff_not] at h1
    omega
  · intro h x hx
    have h1 := h x hx
    have h2 := hs x hx
    simp only [Bool.not_eq_true', Bool.and_eq_false_iff, decide_eq_false_iff_not]
    omega

theorem cnK_gS {k : Nat} : ∀ (ls : List L) (st : Nat → Nat → List L), (∀ l ∈ ls, kd l = k ∧ LV fr to us l) → Asc fr ls → (∀ l ∈ ls, ∀ j, ∀ x ∈ st k j, fr x ≤ fr l) →
    cnK kd it (okC fr to us life) ls st = gS fr to us life ls (shL to us (st k) (it k))
  | [], _, _, _, _ => rfl
  | l :: ls, st, h, ha, hx => by
    have hk := (h l (by simp)).1
    have hl := (h l (by simp)).2
    rw [cnK, gS_cons, shL_len, hk]
    refine sgN_congr fun j hj => ?_
    rw [shL_at _ hj, okC_sh hl (hx l (by simp) j)]
    simp only [Bool.and_eq_true, decide_eq_true_eq]
    split
    · rename_i c
      rw [cnK_gS ls _ (fun x hx => h x (by simp [hx])) ha.2]
      · congr 1
        apply List.ext_getElem
        · simp [shL]
        · intro i h1 h2
          have hi : i < it k := by simpa [shL] using h1
          rw [List.getElem_set]
          simp only [shL, List.getElem_map, List.getElem_range]
          by_cases e : j = i
          · subst e
            rw [if_pos rfl, updS_at]
            simp only [mxT, usC]
            have := hl.ft
            rw [show max (to l) (mxT to (st k j)) = to l by omega, Int.add_comm]
          · rw [if_neg e, updS_ne (fun q => e q.2.symm)]
      · intro y hy j' x hx'
        unfold updS at hx'
        split at hx'
        · rcases List.mem_cons.1 hx' with rfl | hx'
          · exact ha.1 y hy
          · exact hx y (by simp [hy]) j' x hx'
        · exact hx y (by simp [hy]) j' x hx'
    · rfl

/-- loans that are over -/
def clrS (f : Int) (s : List (Int × Int)) : List (Int × Int) := s.map fun x => if x.1 ≤ f then (0, x.2) else x

theorem clrS_len (f : Int) (s : List (Int × Int)) : (clrS f s).length = s.length := by simp [clrS]

theorem gS_clr {f : Int} : ∀ (ls : List L) (s : List (Int × Int)), (∀ l ∈ ls, f ≤ fr l ∧ LV fr to us l) → gS fr to us life ls (clrS f s) = gS fr to us life ls s
  | [], _, _ => rfl
  | l :: ls, s, h => by
    have hl := (h l (by simp)).2
    have h1 := (h l (by simp)).1
    have h2 := hl.f0
    have h3 := hl.ft
    rw [gS_cons, gS_cons, clrS_len]
    refine sgN_congr fun k hk => ?_
    have e : (clrS f s).getD k (0, 0) = if (s.getD k (0, 0)).1 ≤ f then (0, (s.getD k (0, 0)).2) else s.getD k (0, 0) := by simp [clrS, hk]
    have e2 : ((clrS f s).getD k (0, 0)).2 = (s.getD k (0, 0)).2 := by rw [e]; split <;> rfl
    have e1 : ((clrS f s).getD k (0, 0)).1 ≤ fr l ↔ (s.getD k (0, 0)).1 ≤ fr l := by
      rw [e]; split
      · rename_i c; simp only; omega
      · exact Iff.rfl
    rw [e2]
    simp only [e1]
    rw [show (clrS f s).set k (to l, (s.getD k (0, 0)).2 + us l) = clrS f (s.set k (to l, (s.getD k (0, 0)).2 + us l)) by
      unfold clrS; rw [List.map_set, if_neg (by simp only; omega)]]
    rw [gS_clr ls _ (fun x hx => h x (by simp [hx]))]

/-- as the program counts -/
def cP (fr to us : L → Int) (life : Int) (so : List (Int × Int) → List (Int × Int)) : List L → List (Int × Int) → Nat
  | [], _ => 1
  | l :: ls, s => sgN s.length fun k => if 0 < ((so (clrS (fr l) s)).getD k (0, 0)).1 ∨ life < ((so (clrS (fr l) s)).getD k (0, 0)).2 + us l then 0 else cP fr to us life so ls ((so (clrS (fr l) s)).set k (to l, ((so (clrS (fr l) s)).getD k (0, 0)).2 + us l))

theorem clrS_mem {f : Int} {s : List (Int × Int)} {x : Int × Int} (h : x ∈ clrS f s) : x.1 ≤ 0 ∨ f < x.1 := by
  unfold clrS at h
  obtain ⟨y, _, rfl⟩ := List.mem_map.1 h
  split
  · left; simp
  · right; omega

theorem cP_gS {so : List (Int × Int) → List (Int × Int)} (hso : ∀ s, (so s).Perm s) : ∀ (ls : List L) (s : List (Int × Int)), (∀ l ∈ ls, LV fr to us l) → Asc fr ls → cP fr to us life so ls s = gS fr to us life ls s
  | [], _, _, _ => rfl
  | l :: ls, s, h, ha => by
    have hl := h l (by simp)
    have h2 := hl.f0
    have h3 := hl.ft
    rw [cP, ← gS_clr (f := fr l) (l :: ls) s (fun x hx => by
      rcases List.mem_cons.1 hx with rfl | hx
      · exact ⟨by omega, hl⟩
      · exact ⟨ha.1 x hx, h x (by simp [hx])⟩), ← gS_perm (l :: ls) (hso (clrS (fr l) s)), gS_cons]
    have hlen : (so (clrS (fr l) s)).length = s.length := by rw [(hso _).length_eq, clrS_len]
    have hm : ∀ k, k < s.length → ((so (clrS (fr l) s)).getD k (0, 0)).1 ≤ 0 ∨ fr l < ((so (clrS (fr l) s)).getD k (0, 0)).1 := fun k hk => by
      apply clrS_mem (s := s)
      rw [← (hso (clrS (fr l) s)).mem_iff]
      have hk' : k < (so (clrS (fr l) s)).length := by omega
      simp [List.getD, hk']
    rw [hlen]
    generalize so (clrS (fr l) s) = s' at *
    refine sgN_congr fun k hk => ?_
    have := hm k hk
    rw [cP_gS hso ls _ (fun x hx => h x (by simp [hx])) ha.2]
    by_cases c : 0 < (s'.getD k (0, 0)).1 ∨ life < (s'.getD k (0, 0)).2 + us l
    · rw [if_pos c, if_neg (by omega)]
    · rw [if_neg c, if_pos (by omega)]

end
end Go.Vg
