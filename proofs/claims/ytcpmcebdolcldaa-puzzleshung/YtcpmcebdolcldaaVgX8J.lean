/- A part of the proof of PuzzlesHung: contracts of functions, with plain laws that they need. -/
import Derived.Test.YtcpmcebdolcldaaVgP7J
set_option linter.all false
namespace Go.Proofs.Try
open Go.Vg

section
variable {σ : Type}
def wghS (f : Int → List Int → σ → σ × List Int) (sides : List Int) (s : σ) : Nat → σ × List Int
  | 0 => (s, sides)
  | j + 1 => f (j - 1 : Int) (wghS f sides s j).2 (wghS f sides s j).1
/-- all weighings, in the order of the code; what is done with each that is even -/
def wgh (go : σ → List Int → Int → σ) : List Int → Nat → Int → Int → List Int → σ → σ × List Int
  | [], _, sum, used, sides, s => if sum = 0 then (go s sides used, sides) else (s, sides)
  | w :: ws, i, sum, used, sides, s => wghS (fun c sides s => wgh go ws (i + 1) (sum + c * w) (used + c * c) (sides.set i c) s) sides s 3
theorem wghS_len {f : Int → List Int → σ → σ × List Int} (hf : ∀ c sides s, (f c sides s).2.length = sides.length) (sides : List Int) (s : σ) (j : Nat) : (wghS f sides s j).2.length = sides.length := by
  induction j with
  | zero => rfl
  | succ j ih => rw [wghS, hf, ih]
theorem wgh_len (go : σ → List Int → Int → σ) : ∀ (ws : List Int) (i : Nat) (sum used : Int) (sides : List Int) (s : σ), (wgh go ws i sum used sides s).2.length = sides.length
  | [], _, _, _, _, _ => by simp only [wgh]; split <;> rfl
  | w :: ws, i, sum, used, sides, s => by
    rw [wgh]; exact wghS_len (fun c sides s => by rw [wgh_len go ws]; simp) _ _ _

def wtail (N yid wid n : Nat) (sides : List Int) : Mem := [⟨0, .row 1 [.yld yid 0]⟩, ⟨0, .row 1 (sides.map AV.int)⟩, ⟨0, .row 1 [.osl (N + 1) 0 0 n]⟩, ⟨0, .row 1 [.clo 69 [.optr wid 0 0 0, .optr N 0 0 0, .optr (N + 2) 0 0 0, .optr (N + 3) 0 0 0]]⟩]

theorem getK {K : σ → Mem} {N : Nat} (hK : ∀ s, (K s).length = N) (s : σ) (l : Mem) (k : Nat) : (K s ++ l)[N + k]? = l[k]? := by
  rw [List.getElem?_append_right (by rw [hK]; omega), hK]; congr 1; omega
theorem getK0 {K : σ → Mem} {N : Nat} (hK : ∀ s, (K s).length = N) (s : σ) (l : Mem) : (K s ++ l)[N]? = l[0]? := getK hK s l 0
theorem setK {K : σ → Mem} {N : Nat} (hK : ∀ s, (K s).length = N) (s : σ) (l : Mem) (k : Nat) (e : Ent) : (K s ++ l).set (N + k) e = K s ++ l.set k e := by
  show List.set (α := Ent) _ _ _ = _
  rw [List.set_append_right _ _ (by rw [hK]; omega), hK]; congr 2; omega
theorem setK0 {K : σ → Mem} {N : Nat} (hK : ∀ s, (K s).length = N) (s : σ) (l : Mem) (e : Ent) : (K s ++ l).set N e = K s ++ l.set 0 e := setK hK s l 0 e
theorem getL {K : σ → Mem} {i : Nat} {e : Ent} (h : ∀ s, (K s)[i]? = some e) (s : σ) (l : Mem) : (K s ++ l)[i]? = some e := by
  rw [List.getElem?_append_left (List.getElem?_eq_some_iff.1 (h s)).1]; exact h s
theorem lenK {K : σ → Mem} {N : Nat} (hK : ∀ s, (K s).length = N) (s : σ) (l : Mem) : (K s ++ l).length = N + l.length := by
  rw [List.length_append, hK]
theorem takeK {K : σ → Mem} {N : Nat} (hK : ∀ s, (K s).length = N) (s : σ) (l : Mem) (k : Nat) : (K s ++ l).take (N + k) = K s ++ l.take k := by
  rw [List.take_append, List.take_of_length_le (by rw [hK]; omega), hK]; congr 2; omega
theorem takeK0 {K : σ → Mem} {N : Nat} (hK : ∀ s, (K s).length = N) (s : σ) (l : Mem) : (K s ++ l).take N = K s := by
  have := takeK hK s l 0; simpa using this

theorem wok (K : σ → Mem) (N yid wid : Nat) (hK : ∀ s, (K s).length = N) (hN : wid < N) (hKok : ∀ s k, N ≤ k → ∀ e ∈ K s, e.kind.ok k) (hyid : yid < N) (s : σ) (sides : List Int) (n : Nat) : ∀ e ∈ (K s ++ wtail N yid wid n sides).take (N + 4), e.kind.ok (N + 4) := by
  rw [takeK hK]
  intro e he
  rcases List.mem_append.1 he with h | h
  · exact hKok s _ (by omega) e h
  · have h2 : ∀ e ∈ wtail N yid wid n sides, e.kind.ok (N + 4) := by
      unfold wtail
      simp only [push_cast, seval]
      omega
    exact h2 e h
variable (K : σ → Mem) (N yid wid : Nat) (hK : ∀ s, (K s).length = N) (hN : wid < N) (ws : List Int) (hw : ∀ s, (K s)[wid]? = some ⟨0, .row 1 [.ints ws]⟩) (hKok : ∀ s k, N ≤ k → ∀ e ∈ K s, e.kind.ok k) (hyid : yid < N)
  (go : σ → List Int → Int → σ)
  (hY : ∀ s sides used, sides.length = ws.length → YSpec Try.prog (.yld yid 0) [.osl (N + 1) 0 0 ws.length, .int used] (K s ++ wtail N yid wid ws.length sides) fun x m' => x = .bool true ∧ m' = K (go s sides used) ++ wtail N yid wid ws.length sides)
  (hws : bnd 10000 ws) (hn : ws.length ≤ 10)
include hK hN hw hKok hyid hY hws hn
set_option maxHeartbeats 4000000 in
theorem weigh98 : ∀ (rest pre : List Int) (hpr : ws = pre ++ rest) (p : Nat) (hp : pre.length = p) (i : Int) (hi : i = p) (sum used : Int) (sides : List Int) (s : σ) (hsl : sides.length = ws.length) (hs1 : -(100000 + 10000 * i) ≤ sum ∧ sum ≤ 100000 + 10000 * i) (hs2 : 0 ≤ used ∧ used ≤ i),
    Go.Vg.Spec Try.prog 69 [.int i, .int sum, .int used, .optr wid 0 0 0, .optr N 0 0 0, .optr (N + 2) 0 0 0, .optr (N + 3) 0 0 0] (K s ++ wtail N yid wid ws.length sides)
      fun x m' => x = .bool true ∧ m' = K (wgh go rest p sum used sides s).1 ++ wtail N yid wid ws.length (wgh go rest p sum used sides s).2 := by
  intro rest
  induction rest with
  | nil =>
    intro pre hpr p hp i hi sum used sides s hsl hs1 hs2
    have hpl : ws.length = pre.length := by rw [hpr]; simp
    unfold wtail
    (refine Spec.of_body Try.func69 rfl (by rw [Try.ntmps69]; simp) (N + 4) (by rw [lenK hK]; simp) ?_; rw [Try.results69, Try.ntmps69]; simp only [entry, zipArgs, Nat.reduceAdd])
    repeat (first | apply Wp.seq | apply Wp.block | (apply Run.next; (simp only [push_cast, seval, getK hK, getK0 hK, setK hK, setK0 hK, getL hw, lenK hK, hK, List.append_assoc, takeK hK, takeK0 hK] <;> (try simp (disch := omega) only [wI, wU, wC]) <;> exact rfl); (focus ((try simp only [push_cast, seval, getK hK, getK0 hK, setK hK, setK0 hK, getL hw, lenK hK, hK, List.append_assoc, takeK hK, takeK0 hK]) <;> exact sT))) | ((first | apply Run.nil | apply Wp.skip); dsimp only [sQ, tQ, bQ]) | (apply Wp.run; (dsimp only [List.map] <;> exact rfl); exact rfl) | (apply Wp.exit; dsimp only [sQ, tQ, bQ]; simp only [reduceIte]))
    (apply Wp.cond; (simp only [push_cast, seval, getK hK, getK0 hK, setK hK, setK0 hK, getL hw, lenK hK, hK, List.append_assoc, takeK hK, takeK0 hK] <;> (try simp (disch := omega) only [wI, wU, wC]) <;> exact rfl))
    · (intro hc; try simp only [decide_eq_true_eq, decide_eq_false_iff_not, Bool.and_eq_true, Bool.or_eq_true, Bool.not_eq_true, Bool.not_eq_false, Bool.not_eq_true', Bool.not_eq_false', Bool.and_eq_false_iff, Bool.or_eq_false_iff, Int.not_lt, Int.not_le, Int.ofNat_lt, Int.ofNat_le] at hc)
      by_cases h0 : sum = 0
      · subst h0
        repeat (first | apply Wp.seq | apply Wp.block | (apply Run.next; (simp only [push_cast, seval, getK hK, getK0 hK, setK hK, setK0 hK, getL hw, lenK hK, hK, List.append_assoc, takeK hK, takeK0 hK] <;> (try simp (disch := omega) only [wI, wU, wC]) <;> exact rfl); (focus ((try simp only [push_cast, seval, getK hK, getK0 hK, setK hK, setK0 hK, getL hw, lenK hK, hK, List.append_assoc, takeK hK, takeK0 hK]) <;> exact sT))) | ((first | apply Run.nil | apply Wp.skip); dsimp only [sQ, tQ, bQ]) | (apply Wp.run; (dsimp only [List.map] <;> exact rfl); exact rfl) | (apply Wp.exit; dsimp only [sQ, tQ, bQ]; simp only [reduceIte]))
        (try (apply Run.gtrue; (simp only [push_cast, seval, getK hK, getK0 hK, setK hK, setK0 hK, getL hw, lenK hK, hK, List.append_assoc, takeK hK, takeK0 hK] <;> (try simp (disch := omega) only [wI, wU, wC]) <;> exact rfl); (simp only [push_cast, seval, getK hK, getK0 hK, setK hK, setK0 hK, getL hw, lenK hK, hK, List.append_assoc, takeK hK, takeK0 hK] <;> (try simp (disch := omega) only [wI, wU, wC]) <;> exact rfl)))
        (apply Run.ycall; exact rfl; (simp only [push_cast, seval, getK hK, getK0 hK, setK hK, setK0 hK, getL hw, lenK hK, hK, List.append_assoc, takeK hK, takeK0 hK] <;> (try simp (disch := omega) only [wI, wU, wC]) <;> exact rfl); (simp only [push_cast, seval, getK hK, getK0 hK, setK hK, setK0 hK, getL hw, lenK hK, hK, List.append_assoc, takeK hK, takeK0 hK] <;> (try simp (disch := omega) only [wI, wU, wC]) <;> exact rfl); (exact hY s sides used hsl); (rintro _ _ ⟨rfl, rfl⟩; dsimp only [S.put, optG]))
        repeat (first | apply Wp.seq | apply Wp.block | (apply Run.next; (simp only [push_cast, seval, getK hK, getK0 hK, setK hK, setK0 hK, getL hw, lenK hK, hK, List.append_assoc, takeK hK, takeK0 hK] <;> (try simp (disch := omega) only [wI, wU, wC]) <;> exact rfl); (focus ((try simp only [push_cast, seval, getK hK, getK0 hK, setK hK, setK0 hK, getL hw, lenK hK, hK, List.append_assoc, takeK hK, takeK0 hK]) <;> exact sT))) | ((first | apply Run.nil | apply Wp.skip); dsimp only [sQ, tQ, bQ]) | (apply Wp.run; (dsimp only [List.map] <;> exact rfl); exact rfl) | (apply Wp.exit; dsimp only [sQ, tQ, bQ]; simp only [reduceIte]))
        (apply Wp.ret; (try dsimp only [sQ, tQ, bQ]); apply leaveK; exact rfl; (simp only [push_cast, seval, getK hK, getK0 hK, setK hK, setK0 hK, getL hw, lenK hK, hK, List.append_assoc, takeK hK, takeK0 hK] <;> (try simp (disch := omega) only [wI, wU, wC]) <;> exact rfl); (focus (first | (simp only [push_cast, seval, getK hK, getK0 hK, setK hK, setK0 hK, getL hw, lenK hK, hK, List.append_assoc, takeK hK, takeK0 hK]; done) | trivial | (simp only [push_cast, seval, getK hK, getK0 hK, setK hK, setK0 hK, getL hw, lenK hK, hK, List.append_assoc, takeK hK, takeK0 hK]; trivial) | (simp; done))); (focus (first | (simp only [push_cast, seval, getK hK, getK0 hK, setK hK, setK0 hK, getL hw, lenK hK, hK, List.append_assoc, takeK hK, takeK0 hK]; done) | trivial | (simp only [push_cast, seval, getK hK, getK0 hK, setK hK, setK0 hK, getL hw, lenK hK, hK, List.append_assoc, takeK hK, takeK0 hK]; trivial) | (simp; done))); (exact wok K N yid wid hK hN hKok hyid _ _ _); (try simp only [push_cast, seval, getK hK, getK0 hK, setK hK, setK0 hK, getL hw, lenK hK, hK, List.append_assoc, takeK hK, takeK0 hK]))
        simp [wgh, wtail]
      · repeat (first | apply Wp.seq | apply Wp.block | (apply Run.next; (simp only [push_cast, seval, getK hK, getK0 hK, setK hK, setK0 hK, getL hw, lenK hK, hK, List.append_assoc, takeK hK, takeK0 hK, h0] <;> (try simp (disch := omega) only [wI, wU, wC]) <;> exact rfl); (focus ((try simp only [push_cast, seval, getK hK, getK0 hK, setK hK, setK0 hK, getL hw, lenK hK, hK, List.append_assoc, takeK hK, takeK0 hK, h0]) <;> exact sT))) | ((first | apply Run.nil | apply Wp.skip); dsimp only [sQ, tQ, bQ]) | (apply Wp.run; (dsimp only [List.map] <;> exact rfl); exact rfl) | (apply Wp.exit; dsimp only [sQ, tQ, bQ]; simp only [reduceIte]))
        (try (apply Run.gfalse (.bool false); (simp only [push_cast, seval, getK hK, getK0 hK, setK hK, setK0 hK, getL hw, lenK hK, hK, List.append_assoc, takeK hK, takeK0 hK, h0] <;> (try simp (disch := omega) only [wI, wU, wC]) <;> exact rfl); dsimp only [S.put, optG]))
        repeat (first | apply Wp.seq | apply Wp.block | (apply Run.next; (simp only [push_cast, seval, getK hK, getK0 hK, setK hK, setK0 hK, getL hw, lenK hK, hK, List.append_assoc, takeK hK, takeK0 hK, h0] <;> (try simp (disch := omega) only [wI, wU, wC]) <;> exact rfl); (focus ((try simp only [push_cast, seval, getK hK, getK0 hK, setK hK, setK0 hK, getL hw, lenK hK, hK, List.append_assoc, takeK hK, takeK0 hK, h0]) <;> exact sT))) | ((first | apply Run.nil | apply Wp.skip); dsimp only [sQ, tQ, bQ]) | (apply Wp.run; (dsimp only [List.map] <;> exact rfl); exact rfl) | (apply Wp.exit; dsimp only [sQ, tQ, bQ]; simp only [reduceIte]))
        (apply Wp.ret; (try dsimp only [sQ, tQ, bQ]); apply leaveK; exact rfl; (simp only [push_cast, seval, getK hK, getK0 hK, setK hK, setK0 hK, getL hw, lenK hK, hK, List.append_assoc, takeK hK, takeK0 hK, h0] <;> (try simp (disch := omega) only [wI, wU, wC]) <;> exact rfl); (focus (first | (simp only [push_cast, seval, getK hK, getK0 hK, setK hK, setK0 hK, getL hw, lenK hK, hK, List.append_assoc, takeK hK, takeK0 hK, h0]; done) | trivial | (simp only [push_cast, seval, getK hK, getK0 hK, setK hK, setK0 hK, getL hw, lenK hK, hK, List.append_assoc, takeK hK, takeK0 hK, h0]; trivial) | (simp; done))); (focus (first | (simp only [push_cast, seval, getK hK, getK0 hK, setK hK, setK0 hK, getL hw, lenK hK, hK, List.append_assoc, takeK hK, takeK0 hK, h0]; done) | trivial | (simp only [push_cast, seval, getK hK, getK0 hK, setK hK, setK0 hK, getL hw, lenK hK, hK, List.append_assoc, takeK hK, takeK0 hK, h0]; trivial) | (simp; done))); (exact wok K N yid wid hK hN hKok hyid _ _ _); (try simp only [push_cast, seval, getK hK, getK0 hK, setK hK, setK0 hK, getL hw, lenK hK, hK, List.append_assoc, takeK hK, takeK0 hK, h0]))
        simp [wgh, h0]
    · (intro hc; try simp only [decide_eq_true_eq, decide_eq_false_iff_not, Bool.and_eq_true, Bool.or_eq_true, Bool.not_eq_true, Bool.not_eq_false, Bool.not_eq_true', Bool.not_eq_false', Bool.and_eq_false_iff, Bool.or_eq_false_iff, Int.not_lt, Int.not_le, Int.ofNat_lt, Int.ofNat_le] at hc)
      omega
  | cons w rest ih =>
    intro pre hpr p hp i hi sum used sides s hsl hs1 hs2
    subst hi
    have hpl : ws.length = pre.length + (rest.length + 1) := by rw [hpr]; simp
    have hwi : ws.getD p 0 = w := by rw [hpr, ← hp]; simp
    have hwb := hws w (by rw [hpr]; simp)
    unfold wtail
    (refine Spec.of_body Try.func69 rfl (by rw [Try.ntmps69]; simp) (N + 4) (by rw [lenK hK]; simp) ?_; rw [Try.results69, Try.ntmps69]; simp only [entry, zipArgs, Nat.reduceAdd])
    repeat (first | apply Wp.seq | apply Wp.block | (apply Run.next; (simp only [push_cast, seval, getK hK, getK0 hK, setK hK, setK0 hK, getL hw, lenK hK, hK, List.append_assoc, takeK hK, takeK0 hK] <;> (try simp (disch := omega) only [wI, wU, wC]) <;> exact rfl); (focus ((try simp only [push_cast, seval, getK hK, getK0 hK, setK hK, setK0 hK, getL hw, lenK hK, hK, List.append_assoc, takeK hK, takeK0 hK]) <;> exact sT))) | ((first | apply Run.nil | apply Wp.skip); dsimp only [sQ, tQ, bQ]) | (apply Wp.run; (dsimp only [List.map] <;> exact rfl); exact rfl) | (apply Wp.exit; dsimp only [sQ, tQ, bQ]; simp only [reduceIte]))
    (apply Wp.cond; (simp only [push_cast, seval, getK hK, getK0 hK, setK hK, setK0 hK, getL hw, lenK hK, hK, List.append_assoc, takeK hK, takeK0 hK] <;> (try simp (disch := omega) only [wI, wU, wC]) <;> exact rfl))
    · (intro hc; try simp only [decide_eq_true_eq, decide_eq_false_iff_not, Bool.and_eq_true, Bool.or_eq_true, Bool.not_eq_true, Bool.not_eq_false, Bool.not_eq_true', Bool.not_eq_false', Bool.and_eq_false_iff, Bool.or_eq_false_iff, Int.not_lt, Int.not_le, Int.ofNat_lt, Int.ofNat_le] at hc)
      omega
    · (intro hc; try simp only [decide_eq_true_eq, decide_eq_false_iff_not, Bool.and_eq_true, Bool.or_eq_true, Bool.not_eq_true, Bool.not_eq_false, Bool.not_eq_true', Bool.not_eq_false', Bool.and_eq_false_iff, Bool.or_eq_false_iff, Int.not_lt, Int.not_le, Int.ofNat_lt, Int.ofNat_le] at hc)
      repeat (first | apply Wp.seq | apply Wp.block | (apply Run.next; (simp only [push_cast, seval, getK hK, getK0 hK, setK hK, setK0 hK, getL hw, lenK hK, hK, List.append_assoc, takeK hK, takeK0 hK] <;> (try simp (disch := omega) only [wI, wU, wC]) <;> exact rfl); (focus ((try simp only [push_cast, seval, getK hK, getK0 hK, setK hK, setK0 hK, getL hw, lenK hK, hK, List.append_assoc, takeK hK, takeK0 hK]) <;> exact sT))) | ((first | apply Run.nil | apply Wp.skip); dsimp only [sQ, tQ, bQ]) | (apply Wp.run; (dsimp only [List.map] <;> exact rfl); exact rfl) | (apply Wp.exit; dsimp only [sQ, tQ, bQ]; simp only [reduceIte]))
      obtain ⟨f, hf⟩ : ∃ f : Int → List Int → σ → σ × List Int, f = fun c sides s => wgh go rest (p + 1) (sum + c * w) (used + c * c) (sides.set p c) s := ⟨_, rfl⟩
      have hfl : ∀ j, (wghS f sides s j).2.length = sides.length := fun j => wghS_len (fun c sides s => by rw [hf, wgh_len]; simp) _ _ _
      refine Wp.loop (fun j : Nat => { t := [(0, .int p), (1, .int sum), (2, .int used), (3, .optr wid 0 0 0), (4, .optr N 0 0 0), (5, .optr (N + 2) 0 0 0), (6, .optr (N + 3) 0 0 0), (11, .int (j - 1))], m := K (wghS f sides s j).1 ++ [⟨0, .row 1 [.yld yid 0]⟩, ⟨0, .row 1 ((wghS f sides s j).2.map AV.int)⟩, ⟨0, .row 1 [.osl (N + 1) 0 0 ws.length]⟩, ⟨0, .row 1 [.clo 69 [.optr wid 0 0 0, .optr N 0 0 0, .optr (N + 2) 0 0 0, .optr (N + 3) 0 0 0]]⟩], n := 50 }) (fun j => j ≤ 3) (fun j => 3 - j) 0 ?_ ?_ ?_
      · (refine Le.of ?_ ?_ rfl rfl <;> (try simp only [push_cast, seval, getK hK, getK0 hK, setK hK, setK0 hK, getL hw, lenK hK, hK, List.append_assoc, takeK hK, takeK0 hK, hwi]) <;> (try (with_reducible rfl)))
        all_goals rfl
      · omega
      · intro j hj
        have hjl := hfl j
        repeat (first | apply Wp.seq | apply Wp.block | (apply Run.next; (simp only [push_cast, seval, getK hK, getK0 hK, setK hK, setK0 hK, getL hw, lenK hK, hK, List.append_assoc, takeK hK, takeK0 hK, hwi] <;> (try simp (disch := omega) only [wI, wU, wC]) <;> exact rfl); (focus ((try simp only [push_cast, seval, getK hK, getK0 hK, setK hK, setK0 hK, getL hw, lenK hK, hK, List.append_assoc, takeK hK, takeK0 hK, hwi]) <;> exact sT))) | ((first | apply Run.nil | apply Wp.skip); dsimp only [sQ, tQ, bQ]) | (apply Wp.run; (dsimp only [List.map] <;> exact rfl); exact rfl) | (apply Wp.exit; dsimp only [sQ, tQ, bQ]; simp only [reduceIte]))
        (apply Wp.cond; (simp only [push_cast, seval, getK hK, getK0 hK, setK hK, setK0 hK, getL hw, lenK hK, hK, List.append_assoc, takeK hK, takeK0 hK, hwi] <;> (try simp (disch := omega) only [wI, wU, wC]) <;> exact rfl))
        · (intro hc; try simp only [decide_eq_true_eq, decide_eq_false_iff_not, Bool.and_eq_true, Bool.or_eq_true, Bool.not_eq_true, Bool.not_eq_false, Bool.not_eq_true', Bool.not_eq_false', Bool.and_eq_false_iff, Bool.or_eq_false_iff, Int.not_lt, Int.not_le, Int.ofNat_lt, Int.ofNat_le] at hc)
          have hcw : -10000 ≤ ((j : Int) - 1) * w ∧ ((j : Int) - 1) * w ≤ 10000 := by
            obtain rfl | rfl | rfl : j = 0 ∨ j = 1 ∨ j = 2 := by omega
            all_goals (simp; try omega)
          have hcc : 0 ≤ ((j : Int) - 1) * ((j : Int) - 1) ∧ ((j : Int) - 1) * ((j : Int) - 1) ≤ 1 := by
            obtain rfl | rfl | rfl : j = 0 ∨ j = 1 ∨ j = 2 := by omega
            all_goals simp
          repeat (first | apply Wp.seq | apply Wp.block | (apply Run.next; (simp only [push_cast, seval, getK hK, getK0 hK, setK hK, setK0 hK, getL hw, lenK hK, hK, List.append_assoc, takeK hK, takeK0 hK, hwi] <;> (try simp (disch := omega) only [wI, wU, wC]) <;> exact rfl); (focus ((try simp only [push_cast, seval, getK hK, getK0 hK, setK hK, setK0 hK, getL hw, lenK hK, hK, List.append_assoc, takeK hK, takeK0 hK, hwi]) <;> exact sT))) | ((first | apply Run.nil | apply Wp.skip); dsimp only [sQ, tQ, bQ]) | (apply Wp.run; (dsimp only [List.map] <;> exact rfl); exact rfl) | (apply Wp.exit; dsimp only [sQ, tQ, bQ]; simp only [reduceIte]))
          (apply Wp.runD 16 mixed; (dsimp only [List.map] <;> exact rfl); exact rfl; kernel_rfl; (dsimp only [List.take] <;> exact rfl); (dsimp only [List.drop] <;> exact rfl); (((repeat (apply Abn.next; (simp only [push_cast, seval, getK hK, getK0 hK, setK hK, setK0 hK, getL hw, lenK hK, hK, List.append_assoc, takeK hK, takeK0 hK, hwi] <;> (try simp (disch := omega) only [wI, wU, wC]) <;> exact rfl); (focus ((try simp only [push_cast, seval, getK hK, getK0 hK, setK hK, setK0 hK, getL hw, lenK hK, hK, List.append_assoc, takeK hK, takeK0 hK, hwi]) <;> exact sT))))); exact Abn.nil))
          (apply Run.spec (he := (Enters.of Try.func69 rfl rfl)); exact rfl; (simp only [push_cast, seval, getK hK, getK0 hK, setK hK, setK0 hK, getL hw, lenK hK, hK, List.append_assoc, takeK hK, takeK0 hK, hwi] <;> first | exact rfl | assumption); (simp only [push_cast, seval, getK hK, getK0 hK, setK hK, setK0 hK, getL hw, lenK hK, hK, List.append_assoc, takeK hK, takeK0 hK, hwi] <;> (try simp (disch := omega) only [wI, wU, wC]) <;> exact rfl); (exact ih (pre ++ [w]) (by rw [hpr]; simp) (p + 1) (by simp [hp]) (p + 1) (by simp) (sum + (j - 1) * w) (used + (j - 1) * (j - 1)) ((wghS f sides s j).2.set p (j - 1)) (wghS f sides s j).1 (by rw [List.length_set, hjl, hsl]) (by omega) (by omega)); (rintro _ _ ⟨rfl, rfl⟩; dsimp only [S.put, optG]))
          repeat (first | apply Wp.seq | apply Wp.block | (apply Run.next; (simp only [push_cast, seval, getK hK, getK0 hK, setK hK, setK0 hK, getL hw, lenK hK, hK, List.append_assoc, takeK hK, takeK0 hK, hwi] <;> (try simp (disch := omega) only [wI, wU, wC]) <;> exact rfl); (focus ((try simp only [push_cast, seval, getK hK, getK0 hK, setK hK, setK0 hK, getL hw, lenK hK, hK, List.append_assoc, takeK hK, takeK0 hK, hwi]) <;> exact sT))) | ((first | apply Run.nil | apply Wp.skip); dsimp only [sQ, tQ, bQ]) | (apply Wp.run; (dsimp only [List.map] <;> exact rfl); exact rfl) | (apply Wp.exit; dsimp only [sQ, tQ, bQ]; simp only [reduceIte]))
          (apply Wp.cond; (simp only [push_cast, seval, getK hK, getK0 hK, setK hK, setK0 hK, getL hw, lenK hK, hK, List.append_assoc, takeK hK, takeK0 hK, hwi] <;> (try simp (disch := omega) only [wI, wU, wC]) <;> exact rfl))
          · (intro hc; try simp only [decide_eq_true_eq, decide_eq_false_iff_not, Bool.and_eq_true, Bool.or_eq_true, Bool.not_eq_true, Bool.not_eq_false, Bool.not_eq_true', Bool.not_eq_false', Bool.and_eq_false_iff, Bool.or_eq_false_iff, Int.not_lt, Int.not_le, Int.ofNat_lt, Int.ofNat_le] at hc)
            cases hc
          · intro h2
            repeat (first | apply Wp.seq | apply Wp.block | (apply Run.next; (simp only [push_cast, seval, getK hK, getK0 hK, setK hK, setK0 hK, getL hw, lenK hK, hK, List.append_assoc, takeK hK, takeK0 hK, hwi] <;> (try simp (disch := omega) only [wI, wU, wC]) <;> exact rfl); (focus ((try simp only [push_cast, seval, getK hK, getK0 hK, setK hK, setK0 hK, getL hw, lenK hK, hK, List.append_assoc, takeK hK, takeK0 hK, hwi]) <;> exact sT))) | ((first | apply Run.nil | apply Wp.skip); dsimp only [sQ, tQ, bQ]) | (apply Wp.run; (dsimp only [List.map] <;> exact rfl); exact rfl) | (apply Wp.exit; dsimp only [sQ, tQ, bQ]; simp only [reduceIte]))
            refine ⟨j + 1, ?_, by omega, by omega⟩
            (refine Le.of ?_ ?_ rfl rfl <;> (try simp only [push_cast, seval, getK hK, getK0 hK, setK hK, setK0 hK, getL hw, lenK hK, hK, List.append_assoc, takeK hK, takeK0 hK, hwi]) <;> (try (with_reducible rfl)))
            · rw [wghS, hf]; rfl
            · congr 2; omega
        · (intro hc; try simp only [decide_eq_true_eq, decide_eq_false_iff_not, Bool.and_eq_true, Bool.or_eq_true, Bool.not_eq_true, Bool.not_eq_false, Bool.not_eq_true', Bool.not_eq_false', Bool.and_eq_false_iff, Bool.or_eq_false_iff, Int.not_lt, Int.not_le, Int.ofNat_lt, Int.ofNat_le] at hc)
          obtain rfl : j = 3 := by omega
          repeat (first | apply Wp.seq | apply Wp.block | (apply Run.next; (simp only [push_cast, seval, getK hK, getK0 hK, setK hK, setK0 hK, getL hw, lenK hK, hK, List.append_assoc, takeK hK, takeK0 hK, hwi] <;> (try simp (disch := omega) only [wI, wU, wC]) <;> exact rfl); (focus ((try simp only [push_cast, seval, getK hK, getK0 hK, setK hK, setK0 hK, getL hw, lenK hK, hK, List.append_assoc, takeK hK, takeK0 hK, hwi]) <;> exact sT))) | ((first | apply Run.nil | apply Wp.skip); dsimp only [sQ, tQ, bQ]) | (apply Wp.run; (dsimp only [List.map] <;> exact rfl); exact rfl) | (apply Wp.exit; dsimp only [sQ, tQ, bQ]; simp only [reduceIte]))
          (apply Wp.ret; (try dsimp only [sQ, tQ, bQ]); apply leaveK; exact rfl; (simp only [push_cast, seval, getK hK, getK0 hK, setK hK, setK0 hK, getL hw, lenK hK, hK, List.append_assoc, takeK hK, takeK0 hK, hwi] <;> (try simp (disch := omega) only [wI, wU, wC]) <;> exact rfl); (focus (first | (simp only [push_cast, seval, getK hK, getK0 hK, setK hK, setK0 hK, getL hw, lenK hK, hK, List.append_assoc, takeK hK, takeK0 hK, hwi]; done) | trivial | (simp only [push_cast, seval, getK hK, getK0 hK, setK hK, setK0 hK, getL hw, lenK hK, hK, List.append_assoc, takeK hK, takeK0 hK, hwi]; trivial) | (simp; done))); (focus (first | (simp only [push_cast, seval, getK hK, getK0 hK, setK hK, setK0 hK, getL hw, lenK hK, hK, List.append_assoc, takeK hK, takeK0 hK, hwi]; done) | trivial | (simp only [push_cast, seval, getK hK, getK0 hK, setK hK, setK0 hK, getL hw, lenK hK, hK, List.append_assoc, takeK hK, takeK0 hK, hwi]; trivial) | (simp; done))); (exact wok K N yid wid hK hN hKok hyid _ _ _); (try simp only [push_cast, seval, getK hK, getK0 hK, setK hK, setK0 hK, getL hw, lenK hK, hK, List.append_assoc, takeK hK, takeK0 hK, hwi]))
          rw [wgh, hf]

theorem weigh97 (lid : Nat) (load : Int) (hl : ∀ s, (K s)[lid]? = some ⟨0, .row 1 [.int load]⟩) (hld : -100000 ≤ load ∧ load ≤ 100000) (s : σ) :
    Go.Vg.Spec Try.prog 68 [.yld yid 0, .optr wid 0 0 0, .optr lid 0 0 0] (K s) fun _ m' => m' = K (wgh go ws 0 (0 - load) 0 (List.replicate ws.length 0) s).1 := by
  (refine Spec.of_body Try.func68 rfl (by rw [Try.ntmps68]; simp) N (by rw [hK]; simp) ?_; rw [Try.results68, Try.ntmps68]; simp only [entry, zipArgs, Nat.reduceAdd])
  repeat (first | apply Wp.seq | apply Wp.block | (apply Run.next; (simp only [push_cast, seval, getK hK, getK0 hK, setK hK, setK0 hK, getL hw, getL hl, lenK hK, hK, List.append_assoc, takeK hK, takeK0 hK, hw, hl] <;> (try simp (disch := omega) only [wI, wU, wC]) <;> exact rfl); (focus ((try simp only [push_cast, seval, getK hK, getK0 hK, setK hK, setK0 hK, getL hw, getL hl, lenK hK, hK, List.append_assoc, takeK hK, takeK0 hK, hw, hl]) <;> exact sT))) | ((first | apply Run.nil | apply Wp.skip); dsimp only [sQ, tQ, bQ]) | (apply Wp.run; (dsimp only [List.map] <;> exact rfl); exact rfl) | (apply Wp.exit; dsimp only [sQ, tQ, bQ]; simp only [reduceIte]))
  (apply Run.spec (he := (Enters.of Try.func69 rfl rfl)); exact rfl; (simp only [push_cast, seval, getK hK, getK0 hK, setK hK, setK0 hK, getL hw, getL hl, lenK hK, hK, List.append_assoc, takeK hK, takeK0 hK, hw, hl] <;> first | exact rfl | assumption); (simp only [push_cast, seval, getK hK, getK0 hK, setK hK, setK0 hK, getL hw, getL hl, lenK hK, hK, List.append_assoc, takeK hK, takeK0 hK, hw, hl] <;> (try simp (disch := omega) only [wI, wU, wC]) <;> exact rfl); (exact weigh98 K N yid wid hK hN ws hw hKok hyid go hY hws hn ws [] rfl 0 rfl 0 rfl (0 - load) 0 (List.replicate ws.length 0) s (by simp) (by omega) (by omega)); (rintro _ _ ⟨rfl, rfl⟩; dsimp only [S.put, optG]))
  repeat (first | apply Wp.seq | apply Wp.block | (apply Run.next; (simp only [push_cast, seval, getK hK, getK0 hK, setK hK, setK0 hK, getL hw, getL hl, lenK hK, hK, List.append_assoc, takeK hK, takeK0 hK, hw, hl] <;> (try simp (disch := omega) only [wI, wU, wC]) <;> exact rfl); (focus ((try simp only [push_cast, seval, getK hK, getK0 hK, setK hK, setK0 hK, getL hw, getL hl, lenK hK, hK, List.append_assoc, takeK hK, takeK0 hK, hw, hl]) <;> exact sT))) | ((first | apply Run.nil | apply Wp.skip); dsimp only [sQ, tQ, bQ]) | (apply Wp.run; (dsimp only [List.map] <;> exact rfl); exact rfl) | (apply Wp.exit; dsimp only [sQ, tQ, bQ]; simp only [reduceIte]))
  apply Run.nil
  apply leaveN; exact rfl; (simp only [push_cast, seval, getK hK, getK0 hK, setK hK, setK0 hK, getL hw, getL hl, lenK hK, hK, List.append_assoc, takeK hK, takeK0 hK, hw, hl] <;> (try simp (disch := omega) only [wI, wU, wC]) <;> exact rfl); (focus (first | (simp only [push_cast, seval, getK hK, getK0 hK, setK hK, setK0 hK, getL hw, getL hl, lenK hK, hK, List.append_assoc, takeK hK, takeK0 hK, hw, hl]; done) | trivial | (simp only [push_cast, seval, getK hK, getK0 hK, setK hK, setK0 hK, getL hw, getL hl, lenK hK, hK, List.append_assoc, takeK hK, takeK0 hK, hw, hl]; trivial) | (simp; done))); (focus (first | (simp only [push_cast, seval, getK hK, getK0 hK, setK hK, setK0 hK, getL hw, getL hl, lenK hK, hK, List.append_assoc, takeK hK, takeK0 hK, hw, hl]; done) | trivial | (simp only [push_cast, seval, getK hK, getK0 hK, setK hK, setK0 hK, getL hw, getL hl, lenK hK, hK, List.append_assoc, takeK hK, takeK0 hK, hw, hl]; trivial) | (simp; done)))
  · rw [takeK0 hK]; exact hKok _ _ (Nat.le_refl _)
  · rw [takeK0 hK]
end
end Go.Proofs.Try
namespace Go.Proofs.Try
open Go.Vg

theorem weighed1_pure (n : Int) : Pure Try.prog 67 [.int n] (.bool (!(decide (1 ≤ n) && decide (n ≤ 10000)))) := by
  (refine Spec.of_body Try.func67 rfl (by rw [Try.ntmps67]; simp) 0 (by simp) ?_; rw [Try.results67, Try.ntmps67]; simp only [entry, zipArgs, Nat.reduceAdd])
  repeat (first | apply Wp.seq | apply Wp.block | (apply Run.next; (simp only [push_cast, seval] <;> (try simp (disch := omega) only [wI, wU, wC]) <;> exact rfl); (focus ((try simp only [push_cast, seval]) <;> exact sT))) | ((first | apply Run.nil | apply Wp.skip); dsimp only [sQ, tQ, bQ]) | (apply Wp.run; (dsimp only [List.map] <;> exact rfl); exact rfl) | (apply Wp.exit; dsimp only [sQ, tQ, bQ]; simp only [reduceIte]))
  (apply Run.pureP; (simp only [push_cast, seval] <;> (try simp (disch := omega) only [wI, wU, wC]) <;> exact rfl); (exact (Enters.of Try.func24 rfl rfl)); (exact within_pure _ _ _); (focus (simp only [push_cast, seval] <;> first | trivial | assumption | (refine ⟨?_, ?_⟩ <;> assumption) | (simp; done))); (try dsimp only [putA, optG]))
  repeat (first | apply Wp.seq | apply Wp.block | (apply Run.next; (simp only [push_cast, seval] <;> (try simp (disch := omega) only [wI, wU, wC]) <;> exact rfl); (focus ((try simp only [push_cast, seval]) <;> exact sT))) | ((first | apply Run.nil | apply Wp.skip); dsimp only [sQ, tQ, bQ]) | (apply Wp.run; (dsimp only [List.map] <;> exact rfl); exact rfl) | (apply Wp.exit; dsimp only [sQ, tQ, bQ]; simp only [reduceIte]))
  (apply Wp.ret; (try dsimp only [sQ, tQ, bQ]); apply leave0; exact rfl; (simp only [push_cast, seval] <;> (try simp (disch := omega) only [wI, wU, wC]) <;> exact rfl); all_goals (try simp only [push_cast, seval]); (try rfl))

def weighedB (ws : List Int) (load : Int) : Bool := decide ((ws.length : Int) ≤ 10) && (decide (0 ≤ load) && decide (load ≤ 10000)) && ws.all fun n => decide (1 ≤ n) && decide (n ≤ 10000)

theorem weighed_pure (ws : List Int) (load : Int) : Pure Try.prog 52 [.ints ws, .int load] (.bool (weighedB ws load)) := by
  (refine Spec.of_body Try.func52 rfl (by rw [Try.ntmps52]; simp) 0 (by simp) ?_; rw [Try.results52, Try.ntmps52]; simp only [entry, zipArgs, Nat.reduceAdd])
  apply Wp.len 0; (simp only [push_cast, seval] <;> (try simp (disch := omega) only [wI, wU, wC]) <;> exact rfl)
  intro hlen
  simp only [List.length_map] at hlen
  repeat (first | apply Wp.seq | apply Wp.block | (apply Run.next; (simp only [push_cast, seval] <;> (try simp (disch := omega) only [wI, wU, wC]) <;> exact rfl); (focus ((try simp only [push_cast, seval]) <;> exact sT))) | ((first | apply Run.nil | apply Wp.skip); dsimp only [sQ, tQ, bQ]) | (apply Wp.run; (dsimp only [List.map] <;> exact rfl); exact rfl) | (apply Wp.exit; dsimp only [sQ, tQ, bQ]; simp only [reduceIte]))
  (apply Run.pureP; (simp only [push_cast, seval] <;> (try simp (disch := omega) only [wI, wU, wC]) <;> exact rfl); (exact (Enters.of Try.func24 rfl rfl)); (exact within_pure _ _ _); (focus (simp only [push_cast, seval] <;> first | trivial | assumption | (refine ⟨?_, ?_⟩ <;> assumption) | (simp; done))); (try dsimp only [putA, optG]))
  repeat (first | apply Wp.seq | apply Wp.block | (apply Run.next; (simp only [push_cast, seval] <;> (try simp (disch := omega) only [wI, wU, wC]) <;> exact rfl); (focus ((try simp only [push_cast, seval]) <;> exact sT))) | ((first | apply Run.nil | apply Wp.skip); dsimp only [sQ, tQ, bQ]) | (apply Wp.run; (dsimp only [List.map] <;> exact rfl); exact rfl) | (apply Wp.exit; dsimp only [sQ, tQ, bQ]; simp only [reduceIte]))
  (apply Run.pureP; (simp only [push_cast, seval] <;> (try simp (disch := omega) only [wI, wU, wC]) <;> exact rfl); (exact (Enters.of Try.func34 rfl rfl)); (exact containsFunc_pure ws 67 [] _ (Enters.of Try.func67 rfl rfl) trivial (fun _ => ⟨rfl, rfl⟩) (fun x _ => weighed1_pure x) hlen); (focus (simp only [push_cast, seval] <;> first | trivial | assumption | (refine ⟨?_, ?_⟩ <;> assumption) | (simp; done))); (try dsimp only [putA, optG]))
  repeat (first | apply Wp.seq | apply Wp.block | (apply Run.next; (simp only [push_cast, seval] <;> (try simp (disch := omega) only [wI, wU, wC]) <;> exact rfl); (focus ((try simp only [push_cast, seval]) <;> exact sT))) | ((first | apply Run.nil | apply Wp.skip); dsimp only [sQ, tQ, bQ]) | (apply Wp.run; (dsimp only [List.map] <;> exact rfl); exact rfl) | (apply Wp.exit; dsimp only [sQ, tQ, bQ]; simp only [reduceIte]))
  (apply Wp.ret; (try dsimp only [sQ, tQ, bQ]); apply leave0; exact rfl; (simp only [push_cast, seval] <;> (try simp (disch := omega) only [wI, wU, wC]) <;> exact rfl); all_goals (try simp only [push_cast, seval]); (try rfl))
  unfold weighedB
  rw [any_not]
  simp

theorem weighings_spec (ws : List Int) (load : Int) : Go.Vg.Spec Try.prog 53 [.ints ws, .int load] [] fun x m' => x = .clo 68 [.optr 0 0 0 0, .optr 1 0 0 0] ∧ m' = [⟨0, .row 1 [.ints ws]⟩, ⟨0, .row 1 [.int load]⟩] := by
  (refine Spec.of_body Try.func53 rfl (by rw [Try.ntmps53]; simp) 2 (by simp) ?_; rw [Try.results53, Try.ntmps53]; simp only [entry, zipArgs, Nat.reduceAdd])
  repeat (first | apply Wp.seq | apply Wp.block | (apply Run.next; (simp only [push_cast, seval] <;> (try simp (disch := omega) only [wI, wU, wC]) <;> exact rfl); (focus ((try simp only [push_cast, seval]) <;> exact sT))) | ((first | apply Run.nil | apply Wp.skip); dsimp only [sQ, tQ, bQ]) | (apply Wp.run; (dsimp only [List.map] <;> exact rfl); exact rfl) | (apply Wp.exit; dsimp only [sQ, tQ, bQ]; simp only [reduceIte]))
  (apply Wp.ret; (try dsimp only [sQ, tQ, bQ]); apply leaveK; exact rfl; (simp only [push_cast, seval] <;> (try simp (disch := omega) only [wI, wU, wC]) <;> exact rfl); (focus (first | (simp only [push_cast, seval]; done) | trivial | (simp only [push_cast, seval]; trivial) | (simp; done))); (focus (first | (simp only [push_cast, seval]; done) | trivial | (simp only [push_cast, seval]; trivial) | (simp; done))); (focus (first | (simp only [push_cast, seval]; done) | trivial | (simp only [push_cast, seval]; trivial) | (simp; done))); (try simp only [push_cast, seval]))

def sv : Option (List Int) → AV
  | none => .emp
  | some l => .ints l
theorem sv_ok (k : Nat) (o : Option (List Int)) : (sv o).ok k = True := by cases o <;> simp [sv, AV.ok, okL_int]
/-- what Weigh does with a weighing -/
def goW (s : Option (List Int) × Int) (sides : List Int) (used : Int) : Option (List Int) × Int := if s.2 < 0 ∨ used < s.2 then (some sides, used) else s
def bestW (ws : List Int) (load : Int) : Option (List Int) × Int := (wgh goW ws 0 (0 - load) 0 (List.replicate ws.length 0) (none, -1)).1
def weighV (ws : List Int) (load : Int) : AV × Int :=
  if weighedB ws load then (if (bestW ws load).2 < 0 then (.emp, 3) else (sv (bestW ws load).1, 0)) else (.emp, 1)

def Kw (ws : List Int) (load : Int) (L : Kind) (s : Option (List Int) × Int) : Mem := [⟨0, .row 1 [sv s.1]⟩, ⟨0, .row 1 [.int s.2]⟩, ⟨0, .row 1 [.ints ws]⟩, ⟨0, .row 1 [.int load]⟩, ⟨0, .dfr⟩, ⟨0, L⟩]

theorem weigh_pure (ws : List Int) (load : Int) : Pure Try.prog 30 [.ints ws, .int load] (.tup [(weighV ws load).1, .int (weighV ws load).2]) := by
  (refine Spec.of_body Try.func30 rfl (by rw [Try.ntmps30]; simp) 0 (by simp) ?_; rw [Try.results30, Try.ntmps30]; simp only [entry, zipArgs, Nat.reduceAdd])
  repeat (first | apply Wp.seq | apply Wp.block | (apply Run.next; (simp only [push_cast, seval] <;> (try simp (disch := omega) only [wI, wU, wC]) <;> exact rfl); (focus ((try simp only [push_cast, seval]) <;> exact sT))) | ((first | apply Run.nil | apply Wp.skip); dsimp only [sQ, tQ, bQ]) | (apply Wp.run; (dsimp only [List.map] <;> exact rfl); exact rfl) | (apply Wp.exit; dsimp only [sQ, tQ, bQ]; simp only [reduceIte]))
  (apply Run.pureP; (simp only [push_cast, seval] <;> (try simp (disch := omega) only [wI, wU, wC]) <;> exact rfl); (exact (Enters.of Try.func52 rfl rfl)); (exact weighed_pure _ _); (focus (simp only [push_cast, seval] <;> first | trivial | assumption | (refine ⟨?_, ?_⟩ <;> assumption) | (simp; done))); (try dsimp only [putA, optG]))
  repeat (first | apply Wp.seq | apply Wp.block | (apply Run.next; (simp only [push_cast, seval] <;> (try simp (disch := omega) only [wI, wU, wC]) <;> exact rfl); (focus ((try simp only [push_cast, seval]) <;> exact sT))) | ((first | apply Run.nil | apply Wp.skip); dsimp only [sQ, tQ, bQ]) | (apply Wp.run; (dsimp only [List.map] <;> exact rfl); exact rfl) | (apply Wp.exit; dsimp only [sQ, tQ, bQ]; simp only [reduceIte]))
  (apply Wp.cond; (simp only [push_cast, seval] <;> (try simp (disch := omega) only [wI, wU, wC]) <;> exact rfl))
  · intro hc
    repeat (first | apply Wp.seq | apply Wp.block | (apply Run.next; (simp only [push_cast, seval] <;> (try simp (disch := omega) only [wI, wU, wC]) <;> exact rfl); (focus ((try simp only [push_cast, seval]) <;> exact sT))) | ((first | apply Run.nil | apply Wp.skip); dsimp only [sQ, tQ, bQ]) | (apply Wp.run; (dsimp only [List.map] <;> exact rfl); exact rfl) | (apply Wp.exit; dsimp only [sQ, tQ, bQ]; simp only [reduceIte]))
    (apply Wp.ret; (try dsimp only [sQ, tQ, bQ]); apply leave0; exact rfl; (simp only [push_cast, seval] <;> (try simp (disch := omega) only [wI, wU, wC]) <;> exact rfl); all_goals (try simp only [push_cast, seval]); (try rfl))
    simp only [Bool.not_eq_true'] at hc
    simp [weighV, hc]
  · intro hc
    simp only [Bool.not_eq_false'] at hc
    have hwd := hc
    have hw := hc
    simp only [weighedB, Bool.and_eq_true, decide_eq_true_eq, List.all_eq_true] at hw
    obtain ⟨⟨hw1, hw2⟩, hw3⟩ := hw
    have hb : bnd 10000 ws := fun x hx => by have := hw3 x hx; omega
    repeat (first | apply Wp.seq | apply Wp.block | (apply Run.next; (simp only [push_cast, seval] <;> (try simp (disch := omega) only [wI, wU, wC]) <;> exact rfl); (focus ((try simp only [push_cast, seval]) <;> exact sT))) | ((first | apply Run.nil | apply Wp.skip); dsimp only [sQ, tQ, bQ]) | (apply Wp.run; (dsimp only [List.map] <;> exact rfl); exact rfl) | (apply Wp.exit; dsimp only [sQ, tQ, bQ]; simp only [reduceIte]))
    (apply Run.freshE (he := (Enters.of Try.func53 rfl rfl)); (simp only [push_cast, seval] <;> first | exact rfl | assumption); (simp only [push_cast, seval] <;> (try simp (disch := omega) only [wI, wU, wC]) <;> exact rfl); (exact weighings_spec _ _); (focus (first | (simp only [push_cast, seval]; done) | trivial | (simp only [push_cast, seval]; trivial) | (simp; done))); (simp only [push_cast, seval] <;> (try simp (disch := omega) only [wI, wU, wC]) <;> exact rfl); (simp only [push_cast, seval] <;> (try simp (disch := omega) only [wI, wU, wC]) <;> exact rfl); dsimp only [S.put, optG])
    repeat (first | apply Wp.seq | apply Wp.block | (apply Run.next; (simp only [push_cast, seval] <;> (try simp (disch := omega) only [wI, wU, wC]) <;> exact rfl); (focus ((try simp only [push_cast, seval]) <;> exact sT))) | ((first | apply Run.nil | apply Wp.skip); dsimp only [sQ, tQ, bQ]) | (apply Wp.run; (dsimp only [List.map] <;> exact rfl); exact rfl) | (apply Wp.exit; dsimp only [sQ, tQ, bQ]; simp only [reduceIte]))
    refine Wp.range (by (simp only [push_cast, seval] <;> (try simp (disch := omega) only [wI, wU, wC]) <;> exact rfl)) (Enters.of Try.func68 rfl rfl) (N := 4) rfl (C := fun j M => j = none ∧ ∃ s, s = bestW ws load ∧ M = [⟨0, .row 1 [sv s.1]⟩, ⟨0, .row 1 [.int s.2]⟩, ⟨0, .row 1 [.ints ws]⟩, ⟨0, .row 1 [.int load]⟩]) ?_ ?_
    · refine Go.Vg.Spec.mono (weigh97 (Kw ws load _) 6 5 2 (fun s => rfl) (by omega) ws (fun s => rfl) ?_ (by omega) goW ?_ hb (by omega) 3 load (fun s => rfl) (by omega) (none, -1)) ?_
      · intro s k hk
        unfold Kw
        simp only [sv_ok, push_cast]
        omega
      · intro s sides used hsl
        refine YSpec.of_body (id := 5) (ver := 0) rfl rfl (by simp) ?_
        intro L
        obtain ⟨o, b⟩ := s
        unfold Kw wtail
        dsimp only [bindP, List.cons_append, List.nil_append]
        repeat (first | apply Wp.seq | apply Wp.block | (apply Run.next; (simp only [push_cast, seval] <;> (try simp (disch := omega) only [wI, wU, wC]) <;> exact rfl); (focus ((try simp only [push_cast, seval]) <;> exact sT))) | ((first | apply Run.nil | apply Wp.skip); dsimp only [sQ, tQ, bQ]) | (apply Wp.run; (dsimp only [List.map] <;> exact rfl); exact rfl) | (apply Wp.exit; dsimp only [sQ, tQ, bQ]; simp only [reduceIte]))
        refine ⟨rfl, rfl, ?_⟩
        dsimp only [List.set]
        have htk : sides.take ws.length = sides := by rw [← hsl]; simp
        cases o with
        | none =>
          repeat (first | apply Wp.seq | apply Wp.block | (apply Run.next; (simp only [push_cast, seval, hsl, htk, sv] <;> (try simp (disch := omega) only [wI, wU, wC]) <;> exact rfl); (focus ((try simp only [push_cast, seval, hsl, htk, sv]) <;> exact sT))) | ((first | apply Run.nil | apply Wp.skip); dsimp only [sQ, tQ, bQ]) | (apply Wp.run; (dsimp only [List.map] <;> exact rfl); exact rfl) | (apply Wp.exit; dsimp only [sQ, tQ, bQ]; simp only [reduceIte]))
          (apply Wp.cond; (simp only [push_cast, seval, hsl, htk, sv] <;> (try simp (disch := omega) only [wI, wU, wC]) <;> exact rfl))
          · intro h2
            repeat (first | apply Wp.seq | apply Wp.block | (apply Run.next; (simp only [push_cast, seval, hsl, htk, sv] <;> (try simp (disch := omega) only [wI, wU, wC]) <;> exact rfl); (focus ((try simp only [push_cast, seval, hsl, htk, sv]) <;> exact sT))) | ((first | apply Run.nil | apply Wp.skip); dsimp only [sQ, tQ, bQ]) | (apply Wp.run; (dsimp only [List.map] <;> exact rfl); exact rfl) | (apply Wp.exit; dsimp only [sQ, tQ, bQ]; simp only [reduceIte]))
            (apply Run.freshV (he := (Enters.of Try.func26 rfl rfl)); (simp only [push_cast, seval, hsl, htk, sv] <;> first | exact rfl | assumption); (simp only [push_cast, seval, hsl, htk, sv] <;> (try simp (disch := omega) only [wI, wU, wC]) <;> exact rfl); (exact clone_spec sides (by omega)); (focus (first | (simp only [push_cast, seval, hsl, htk, sv]; done) | trivial | (simp only [push_cast, seval, hsl, htk, sv]; trivial) | (simp; done) | (intro x hx; simp only [List.mem_cons, List.not_mem_nil, or_false] at hx; rcases hx with rfl | rfl <;> first | exact .inl trivial | exact .inr ⟨_, _, _, _, rfl⟩))); (focus (first | (simp only [push_cast, seval, hsl, htk, sv]; done) | trivial | (simp only [push_cast, seval, hsl, htk, sv]; trivial) | (simp; done) | (intro x hx; simp only [List.mem_cons, List.not_mem_nil, or_false] at hx; rcases hx with rfl | rfl <;> first | exact .inl trivial | exact .inr ⟨_, _, _, _, rfl⟩))); (focus (first | (simp only [push_cast, seval, hsl, htk, sv]; done) | trivial | (simp only [push_cast, seval, hsl, htk, sv]; trivial) | (simp; done) | (intro x hx; simp only [List.mem_cons, List.not_mem_nil, or_false] at hx; rcases hx with rfl | rfl <;> first | exact .inl trivial | exact .inr ⟨_, _, _, _, rfl⟩))); (dsimp only [S.put, optG]; try dsimp only [AV.shift, List.length_nil, List.length_cons, List.nil_append, List.cons_append, Nat.zero_add, Nat.add_zero, Nat.reduceAdd]))
            (apply Run.freeze 26; (simp only [push_cast, seval, hsl, htk, sv] <;> (try simp (disch := omega) only [wI, wU, wC]) <;> exact rfl); (simp only [push_cast, seval, hsl, htk, sv] <;> (try simp (disch := omega) only [wI, wU, wC]) <;> exact rfl); (focus (try simp only [push_cast, seval, hsl, htk, sv]); (try (exact sT))); (focus (exact sT)); (simp only [push_cast, seval, hsl, htk, sv] <;> (try simp (disch := omega) only [wI, wU, wC]) <;> exact rfl); (simp only [push_cast, seval, hsl, htk, sv] <;> (try simp (disch := omega) only [wI, wU, wC]) <;> exact rfl))
            repeat (first | apply Wp.seq | apply Wp.block | (apply Run.next; (simp only [push_cast, seval, hsl, htk, sv] <;> (try simp (disch := omega) only [wI, wU, wC]) <;> exact rfl); (focus ((try simp only [push_cast, seval, hsl, htk, sv]) <;> exact sT))) | ((first | apply Run.nil | apply Wp.skip); dsimp only [sQ, tQ, bQ]) | (apply Wp.run; (dsimp only [List.map] <;> exact rfl); exact rfl) | (apply Wp.exit; dsimp only [sQ, tQ, bQ]; simp only [reduceIte]))
            refine ⟨rfl, ?_, rfl, ?_⟩
            · simp only [push_cast, seval, hsl, htk, sv]
            · simp only [Bool.or_eq_true, decide_eq_true_eq] at h2
              unfold goW
              rw [if_pos h2]; rfl
          · intro h2
            repeat (first | apply Wp.seq | apply Wp.block | (apply Run.next; (simp only [push_cast, seval, hsl, htk, sv] <;> (try simp (disch := omega) only [wI, wU, wC]) <;> exact rfl); (focus ((try simp only [push_cast, seval, hsl, htk, sv]) <;> exact sT))) | ((first | apply Run.nil | apply Wp.skip); dsimp only [sQ, tQ, bQ]) | (apply Wp.run; (dsimp only [List.map] <;> exact rfl); exact rfl) | (apply Wp.exit; dsimp only [sQ, tQ, bQ]; simp only [reduceIte]))
            refine ⟨rfl, ?_, rfl, ?_⟩
            · simp only [push_cast, seval, hsl, htk, sv]
            · simp only [Bool.or_eq_false_iff, decide_eq_false_iff_not] at h2
              unfold goW
              rw [if_neg (by simp only; omega)]; rfl
        | some l =>
          repeat (first | apply Wp.seq | apply Wp.block | (apply Run.next; (simp only [push_cast, seval, hsl, htk, sv] <;> (try simp (disch := omega) only [wI, wU, wC]) <;> exact rfl); (focus ((try simp only [push_cast, seval, hsl, htk, sv]) <;> exact sT))) | ((first | apply Run.nil | apply Wp.skip); dsimp only [sQ, tQ, bQ]) | (apply Wp.run; (dsimp only [List.map] <;> exact rfl); exact rfl) | (apply Wp.exit; dsimp only [sQ, tQ, bQ]; simp only [reduceIte]))
          (apply Wp.cond; (simp only [push_cast, seval, hsl, htk, sv] <;> (try simp (disch := omega) only [wI, wU, wC]) <;> exact rfl))
          · intro h2
            repeat (first | apply Wp.seq | apply Wp.block | (apply Run.next; (simp only [push_cast, seval, hsl, htk, sv] <;> (try simp (disch := omega) only [wI, wU, wC]) <;> exact rfl); (focus ((try simp only [push_cast, seval, hsl, htk, sv]) <;> exact sT))) | ((first | apply Run.nil | apply Wp.skip); dsimp only [sQ, tQ, bQ]) | (apply Wp.run; (dsimp only [List.map] <;> exact rfl); exact rfl) | (apply Wp.exit; dsimp only [sQ, tQ, bQ]; simp only [reduceIte]))
            (apply Run.freshV (he := (Enters.of Try.func26 rfl rfl)); (simp only [push_cast, seval, hsl, htk, sv] <;> first | exact rfl | assumption); (simp only [push_cast, seval, hsl, htk, sv] <;> (try simp (disch := omega) only [wI, wU, wC]) <;> exact rfl); (exact clone_spec sides (by omega)); (focus (first | (simp only [push_cast, seval, hsl, htk, sv]; done) | trivial | (simp only [push_cast, seval, hsl, htk, sv]; trivial) | (simp; done) | (intro x hx; simp only [List.mem_cons, List.not_mem_nil, or_false] at hx; rcases hx with rfl | rfl <;> first | exact .inl trivial | exact .inr ⟨_, _, _, _, rfl⟩))); (focus (first | (simp only [push_cast, seval, hsl, htk, sv]; done) | trivial | (simp only [push_cast, seval, hsl, htk, sv]; trivial) | (simp; done) | (intro x hx; simp only [List.mem_cons, List.not_mem_nil, or_false] at hx; rcases hx with rfl | rfl <;> first | exact .inl trivial | exact .inr ⟨_, _, _, _, rfl⟩))); (focus (first | (simp only [push_cast, seval, hsl, htk, sv]; done) | trivial | (simp only [push_cast, seval, hsl, htk, sv]; trivial) | (simp; done) | (intro x hx; simp only [List.mem_cons, List.not_mem_nil, or_false] at hx; rcases hx with rfl | rfl <;> first | exact .inl trivial | exact .inr ⟨_, _, _, _, rfl⟩))); (dsimp only [S.put, optG]; try dsimp only [AV.shift, List.length_nil, List.length_cons, List.nil_append, List.cons_append, Nat.zero_add, Nat.add_zero, Nat.reduceAdd]))
            (apply Run.freeze 26; (simp only [push_cast, seval, hsl, htk, sv] <;> (try simp (disch := omega) only [wI, wU, wC]) <;> exact rfl); (simp only [push_cast, seval, hsl, htk, sv] <;> (try simp (disch := omega) only [wI, wU, wC]) <;> exact rfl); (focus (try simp only [push_cast, seval, hsl, htk, sv]); (try (exact sT))); (focus (exact sT)); (simp only [push_cast, seval, hsl, htk, sv] <;> (try simp (disch := omega) only [wI, wU, wC]) <;> exact rfl); (simp only [push_cast, seval, hsl, htk, sv] <;> (try simp (disch := omega) only [wI, wU, wC]) <;> exact rfl))
            repeat (first | apply Wp.seq | apply Wp.block | (apply Run.next; (simp only [push_cast, seval, hsl, htk, sv] <;> (try simp (disch := omega) only [wI, wU, wC]) <;> exact rfl); (focus ((try simp only [push_cast, seval, hsl, htk, sv]) <;> exact sT))) | ((first | apply Run.nil | apply Wp.skip); dsimp only [sQ, tQ, bQ]) | (apply Wp.run; (dsimp only [List.map] <;> exact rfl); exact rfl) | (apply Wp.exit; dsimp only [sQ, tQ, bQ]; simp only [reduceIte]))
            refine ⟨rfl, ?_, rfl, ?_⟩
            · simp only [push_cast, seval, hsl, htk, sv]
            · simp only [Bool.or_eq_true, decide_eq_true_eq] at h2
              unfold goW
              rw [if_pos h2]; rfl
          · intro h2
            repeat (first | apply Wp.seq | apply Wp.block | (apply Run.next; (simp only [push_cast, seval, hsl, htk, sv] <;> (try simp (disch := omega) only [wI, wU, wC]) <;> exact rfl); (focus ((try simp only [push_cast, seval, hsl, htk, sv]) <;> exact sT))) | ((first | apply Run.nil | apply Wp.skip); dsimp only [sQ, tQ, bQ]) | (apply Wp.run; (dsimp only [List.map] <;> exact rfl); exact rfl) | (apply Wp.exit; dsimp only [sQ, tQ, bQ]; simp only [reduceIte]))
            refine ⟨rfl, ?_, rfl, ?_⟩
            · simp only [push_cast, seval, hsl, htk, sv]
            · simp only [Bool.or_eq_false_iff, decide_eq_false_iff_not] at h2
              unfold goW
              rw [if_neg (by simp only; omega)]; rfl
      · rintro x m' rfl
        exact ⟨_, none, ⟨rfl, _, rfl, rfl⟩, rfl, rfl⟩
    · rintro M j ⟨rfl, ⟨o, b⟩, hs, rfl⟩
      dsimp only [bQ, sQ, List.cons_append, List.nil_append]
      repeat (first | apply Wp.seq | apply Wp.block | (apply Run.next; (simp only [push_cast, seval, sv] <;> (try simp (disch := omega) only [wI, wU, wC]) <;> exact rfl); (focus ((try simp only [push_cast, seval, sv]) <;> exact sT))) | ((first | apply Run.nil | apply Wp.skip); dsimp only [sQ, tQ, bQ]) | (apply Wp.run; (dsimp only [List.map] <;> exact rfl); exact rfl) | (apply Wp.exit; dsimp only [sQ, tQ, bQ]; simp only [reduceIte]))
      (apply Wp.cond; (simp only [push_cast, seval, sv] <;> (try simp (disch := omega) only [wI, wU, wC]) <;> exact rfl))
      · (intro hc; try simp only [decide_eq_true_eq, decide_eq_false_iff_not, Bool.and_eq_true, Bool.or_eq_true, Bool.not_eq_true, Bool.not_eq_false, Bool.not_eq_true', Bool.not_eq_false', Bool.and_eq_false_iff, Bool.or_eq_false_iff, Int.not_lt, Int.not_le, Int.ofNat_lt, Int.ofNat_le] at hc)
        repeat (first | apply Wp.seq | apply Wp.block | (apply Run.next; (simp only [push_cast, seval, sv] <;> (try simp (disch := omega) only [wI, wU, wC]) <;> exact rfl); (focus ((try simp only [push_cast, seval, sv]) <;> exact sT))) | ((first | apply Run.nil | apply Wp.skip); dsimp only [sQ, tQ, bQ]) | (apply Wp.run; (dsimp only [List.map] <;> exact rfl); exact rfl) | (apply Wp.exit; dsimp only [sQ, tQ, bQ]; simp only [reduceIte]))
        (apply Wp.ret; (try dsimp only [sQ, tQ, bQ]); apply leaveM; (focus (first | (simp only [push_cast, seval, sv]; done) | trivial | (simp only [push_cast, seval, sv]; trivial) | (simp; done))); (focus (first | (simp only [push_cast, seval, sv]; done) | trivial | (simp only [push_cast, seval, sv]; trivial) | (simp; done))); (simp only [push_cast, seval, sv] <;> (try simp (disch := omega) only [wI, wU, wC]) <;> exact rfl); (focus (first | (simp only [push_cast, seval, sv]; done) | trivial | (simp only [push_cast, seval, sv]; trivial) | (simp; done))); (focus (first | (simp only [push_cast, seval, sv]; done) | trivial | (simp only [push_cast, seval, sv]; trivial) | (simp; done))); (focus (first | (simp only [push_cast, seval, sv]; done) | trivial | (simp only [push_cast, seval, sv]; trivial) | (simp; done))); (try simp only [push_cast, seval, sv]))
        simp [weighV, hwd, ← hs, hc]
      · (intro hc; try simp only [decide_eq_true_eq, decide_eq_false_iff_not, Bool.and_eq_true, Bool.or_eq_true, Bool.not_eq_true, Bool.not_eq_false, Bool.not_eq_true', Bool.not_eq_false', Bool.and_eq_false_iff, Bool.or_eq_false_iff, Int.not_lt, Int.not_le, Int.ofNat_lt, Int.ofNat_le] at hc)
        cases o with
        | none =>
          repeat (first | apply Wp.seq | apply Wp.block | (apply Run.next; (simp only [push_cast, seval, sv] <;> (try simp (disch := omega) only [wI, wU, wC]) <;> exact rfl); (focus ((try simp only [push_cast, seval, sv]) <;> exact sT))) | ((first | apply Run.nil | apply Wp.skip); dsimp only [sQ, tQ, bQ]) | (apply Wp.run; (dsimp only [List.map] <;> exact rfl); exact rfl) | (apply Wp.exit; dsimp only [sQ, tQ, bQ]; simp only [reduceIte]))
          (apply Wp.ret; (try dsimp only [sQ, tQ, bQ]); apply leaveM; (focus (first | (simp only [push_cast, seval, sv]; done) | trivial | (simp only [push_cast, seval, sv]; trivial) | (simp; done))); (focus (first | (simp only [push_cast, seval, sv]; done) | trivial | (simp only [push_cast, seval, sv]; trivial) | (simp; done))); (simp only [push_cast, seval, sv] <;> (try simp (disch := omega) only [wI, wU, wC]) <;> exact rfl); (focus (first | (simp only [push_cast, seval, sv]; done) | trivial | (simp only [push_cast, seval, sv]; trivial) | (simp; done))); (focus (first | (simp only [push_cast, seval, sv]; done) | trivial | (simp only [push_cast, seval, sv]; trivial) | (simp; done))); (focus (first | (simp only [push_cast, seval, sv]; done) | trivial | (simp only [push_cast, seval, sv]; trivial) | (simp; done))); (try simp only [push_cast, seval, sv]))
          simp only [weighV, hwd, ← hs, sv, if_true, if_neg (by omega : ¬ b < 0)]
        | some l =>
          repeat (first | apply Wp.seq | apply Wp.block | (apply Run.next; (simp only [push_cast, seval, sv] <;> (try simp (disch := omega) only [wI, wU, wC]) <;> exact rfl); (focus ((try simp only [push_cast, seval, sv]) <;> exact sT))) | ((first | apply Run.nil | apply Wp.skip); dsimp only [sQ, tQ, bQ]) | (apply Wp.run; (dsimp only [List.map] <;> exact rfl); exact rfl) | (apply Wp.exit; dsimp only [sQ, tQ, bQ]; simp only [reduceIte]))
          (apply Wp.ret; (try dsimp only [sQ, tQ, bQ]); apply leaveM; (focus (first | (simp only [push_cast, seval, sv]; done) | trivial | (simp only [push_cast, seval, sv]; trivial) | (simp; done))); (focus (first | (simp only [push_cast, seval, sv]; done) | trivial | (simp only [push_cast, seval, sv]; trivial) | (simp; done))); (simp only [push_cast, seval, sv] <;> (try simp (disch := omega) only [wI, wU, wC]) <;> exact rfl); (focus (first | (simp only [push_cast, seval, sv]; done) | trivial | (simp only [push_cast, seval, sv]; trivial) | (simp; done))); (focus (first | (simp only [push_cast, seval, sv]; done) | trivial | (simp only [push_cast, seval, sv]; trivial) | (simp; done))); (focus (first | (simp only [push_cast, seval, sv]; done) | trivial | (simp only [push_cast, seval, sv]; trivial) | (simp; done))); (try simp only [push_cast, seval, sv]))
          simp only [weighV, hwd, ← hs, sv, if_true, if_neg (by omega : ¬ b < 0)]
end Go.Proofs.Try
namespace Go.Proofs.Try
open Go.Vg

theorem works_shift : shiftV ⟨#[107, 101, 121, 32, 116, 111, 32, 114, 101, 100]⟩ 3 = (⟨#[110, 104, 98, 32, 119, 114, 32, 117, 104, 103]⟩, 0) := by decide
theorem works_weigh : bestW [1, 3, 9] 5 = (some [-1, -1, 1], 3) := by decide
theorem works_next : nextV [1, 4, 9, 16] = (25, 2, 0) := by decide

theorem works_c1 : Pure Try.prog 29 [.str ⟨#[107, 101, 121, 32, 116, 111, 32, 114, 101, 100]⟩, .int 3] (.tup [.str ⟨#[110, 104, 98, 32, 119, 114, 32, 117, 104, 103]⟩, .int 0]) := by
  have := shiftV_pure ⟨#[107, 101, 121, 32, 116, 111, 32, 114, 101, 100]⟩ 3
  rw [works_shift] at this; exact this
theorem works_c2 : Pure Try.prog 30 [.lst 1 [.int 1, .int 3, .int 9], .int 5] (.tup [.lst 1 [.int (-1), .int (-1), .int 1], .int 0]) := by
  have := weigh_pure [1, 3, 9] 5
  have e : weighV [1, 3, 9] 5 = (.ints [-1, -1, 1], 0) := by
    unfold weighV
    rw [if_pos (by decide), works_weigh]; rfl
  rw [e] at this; exact this
theorem works_c3 : Pure Try.prog 31 [.lst 1 [.int 1, .int 4, .int 9, .int 16]] (.tup [.int 25, .int 2, .int 0]) := by
  have := next_pure [1, 4, 9, 16]
  rw [works_next] at this; exact this
theorem works_c4 : Pure Try.prog 9 [.lst 1 [.int (-1), .int (-1), .int 1], .lst 1 [.int (-1), .int (-1), .int 1]] (.bool true) := by
  have := sameInts_pure [-1, -1, 1] [-1, -1, 1]
  exact this

theorem works_pure : Pure Try.prog 12 [] (.bool true) := by
  (refine Spec.of_body Try.func12 rfl (by rw [Try.ntmps12]; simp) 0 (by simp) ?_; rw [Try.results12, Try.ntmps12]; simp only [entry, zipArgs, Nat.reduceAdd])
  repeat (first | apply Wp.seq | apply Wp.block | (apply Run.next; (simp only [push_cast, seval] <;> (try simp (disch := omega) only [wI, wU, wC]) <;> exact rfl); (focus ((try simp only [push_cast, seval]) <;> exact sT))) | ((first | apply Run.nil | apply Wp.skip); dsimp only [sQ, tQ, bQ]) | (apply Wp.run; (dsimp only [List.map] <;> exact rfl); exact rfl) | (apply Wp.exit; dsimp only [sQ, tQ, bQ]; simp only [reduceIte]))
  (apply Run.pureP; (simp only [push_cast, seval] <;> (try simp (disch := omega) only [wI, wU, wC]) <;> exact rfl); (exact (Enters.of Try.func29 rfl rfl)); (exact works_c1); (focus (simp only [push_cast, seval] <;> first | trivial | assumption | (refine ⟨?_, ?_⟩ <;> assumption) | (simp; done))); (try dsimp only [putA, optG]))
  repeat (first | apply Wp.seq | apply Wp.block | (apply Run.next; (simp only [push_cast, seval] <;> (try simp (disch := omega) only [wI, wU, wC]) <;> exact rfl); (focus ((try simp only [push_cast, seval]) <;> exact sT))) | ((first | apply Run.nil | apply Wp.skip); dsimp only [sQ, tQ, bQ]) | (apply Wp.run; (dsimp only [List.map] <;> exact rfl); exact rfl) | (apply Wp.exit; dsimp only [sQ, tQ, bQ]; simp only [reduceIte]))
  (apply Run.pureFP; (simp only [push_cast, seval] <;> (try simp (disch := omega) only [wI, wU, wC]) <;> exact rfl); (exact (Enters.of Try.func30 rfl rfl)); (exact works_c2); (focus (simp only [push_cast, seval] <;> first | trivial | assumption | (refine ⟨?_, ?_⟩ <;> assumption) | (simp; done))); (try dsimp only [putA, optG]))
  repeat (first | apply Wp.seq | apply Wp.block | (apply Run.next; (simp only [push_cast, seval] <;> (try simp (disch := omega) only [wI, wU, wC]) <;> exact rfl); (focus ((try simp only [push_cast, seval]) <;> exact sT))) | ((first | apply Run.nil | apply Wp.skip); dsimp only [sQ, tQ, bQ]) | (apply Wp.run; (dsimp only [List.map] <;> exact rfl); exact rfl) | (apply Wp.exit; dsimp only [sQ, tQ, bQ]; simp only [reduceIte]))
  (apply Run.pureFP; (simp only [push_cast, seval] <;> (try simp (disch := omega) only [wI, wU, wC]) <;> exact rfl); (exact (Enters.of Try.func31 rfl rfl)); (exact works_c3); (focus (simp only [push_cast, seval] <;> first | trivial | assumption | (refine ⟨?_, ?_⟩ <;> assumption) | (simp; done))); (try dsimp only [putA, optG]))
  repeat (first | apply Wp.seq | apply Wp.block | (apply Run.next; (simp only [push_cast, seval] <;> (try simp (disch := omega) only [wI, wU, wC]) <;> exact rfl); (focus ((try simp only [push_cast, seval]) <;> exact sT))) | ((first | apply Run.nil | apply Wp.skip); dsimp only [sQ, tQ, bQ]) | (apply Wp.run; (dsimp only [List.map] <;> exact rfl); exact rfl) | (apply Wp.exit; dsimp only [sQ, tQ, bQ]; simp only [reduceIte]))
  (try (apply Run.gtrue; (simp only [push_cast, seval] <;> (try simp (disch := omega) only [wI, wU, wC]) <;> exact rfl); (simp only [push_cast, seval] <;> (try simp (disch := omega) only [wI, wU, wC]) <;> exact rfl)))
  repeat (first | apply Wp.seq | apply Wp.block | (apply Run.next; (simp only [push_cast, seval] <;> (try simp (disch := omega) only [wI, wU, wC]) <;> exact rfl); (focus ((try simp only [push_cast, seval]) <;> exact sT))) | ((first | apply Run.nil | apply Wp.skip); dsimp only [sQ, tQ, bQ]) | (apply Wp.run; (dsimp only [List.map] <;> exact rfl); exact rfl) | (apply Wp.exit; dsimp only [sQ, tQ, bQ]; simp only [reduceIte]))
  (try (apply Run.gtrue; (simp only [push_cast, seval] <;> (try simp (disch := omega) only [wI, wU, wC]) <;> exact rfl); (simp only [push_cast, seval] <;> (try simp (disch := omega) only [wI, wU, wC]) <;> exact rfl)))
  (apply Run.pureP; (simp only [push_cast, seval] <;> (try simp (disch := omega) only [wI, wU, wC]) <;> exact rfl); (exact (Enters.of Try.func9 rfl rfl)); (exact works_c4); (focus (simp only [push_cast, seval] <;> first | trivial | assumption | (refine ⟨?_, ?_⟩ <;> assumption) | (simp; done))); (try dsimp only [putA, optG]))
  repeat (first | apply Wp.seq | apply Wp.block | (apply Run.next; (simp only [push_cast, seval] <;> (try simp (disch := omega) only [wI, wU, wC]) <;> exact rfl); (focus ((try simp only [push_cast, seval]) <;> exact sT))) | ((first | apply Run.nil | apply Wp.skip); dsimp only [sQ, tQ, bQ]) | (apply Wp.run; (dsimp only [List.map] <;> exact rfl); exact rfl) | (apply Wp.exit; dsimp only [sQ, tQ, bQ]; simp only [reduceIte]))
  (apply Wp.ret; (try dsimp only [sQ, tQ, bQ]); apply leave0; exact rfl; (simp only [push_cast, seval] <;> (try simp (disch := omega) only [wI, wU, wC]) <;> exact rfl); all_goals (try simp only [push_cast, seval]); (try rfl))
end Go.Proofs.Try
set_option maxHeartbeats 8000000
namespace Go.Proofs.Try
open Go.Vg

/-! the document's hangings -/
end Go.Proofs.Try
set_option maxHeartbeats 8000000
namespace Go.Proofs.Try
open Go.Vg

/-! what a hanging is, in plain words -/
theorem nodup_len {S : List Int} : ∀ {J : List Int}, J.Nodup → (∀ x ∈ J, x ∈ S) → J.length ≤ S.length := by
  intro J
  induction J generalizing S with
  | nil => intro _ _; simp
  | cons x J ih =>
    intro hn hs
    rw [List.nodup_cons] at hn
    have hx := hs x (by simp)
    have h1 : ∀ y ∈ J, y ∈ S.erase x := fun y hy => by
      have hne : y ≠ x := fun e => hn.1 (e ▸ hy)
      exact (List.mem_erase_of_ne hne).2 (hs y (by simp [hy]))
    have h2 := ih hn.2 h1
    have h3 := List.length_erase_of_mem hx
    have h4 : 0 < S.length := List.length_pos_of_mem hx
    simp only [List.length_cons]
    omega
theorem nodup_take {J : List Int} (h : ∀ k, k < J.length → J.getD k 0 ∉ J.take k) : J.Nodup := by
  rw [List.nodup_iff_pairwise_ne, List.pairwise_iff_getElem]
  intro i j hi hj hij e
  apply h j hj
  rw [List.getD_eq_getElem?_getD, List.getElem?_eq_getElem hj, Option.getD_some, ← e]
  rw [List.mem_take_iff_getElem]
  exact ⟨i, by omega, rfl⟩
structure HgP (n : Nat) (l : List Pt) (J : List Int) : Prop where
  len : J.length = n
  all : ∀ p : Nat, p < n → (p : Int) ∈ J
  ok : ∀ x ∈ l, hoQ x J = true
theorem hg_mem {n : Nat} {l : List Pt} {J : List Int} (h : J ∈ hgL n (okH l) n []) : HgP n l J := by
  obtain ⟨h1, h2⟩ := List.mem_filter.1 h
  obtain ⟨h3, _, h5⟩ := plL_mem.1 h1
  simp only [List.length_nil, Nat.zero_add] at h3 h5
  have hk : ∀ k, k < J.length → ∃ j : Nat, j < n ∧ J.getD k 0 = (j : Int) ∧ J.getD k 0 ∉ J.take k := fun k hk => by
    obtain ⟨j, q1, q2, q3⟩ := h5 k (Nat.zero_le _) hk
    refine ⟨j, q1, q2, ?_⟩
    rw [take_succ_getD hk, okN_snoc] at q3
    simpa using q3
  have hnd : J.Nodup := nodup_take fun k h => (hk k h).choose_spec.2.2
  refine ⟨h3, fun p hp => ?_, fun x hx => List.all_eq_true.1 h2 x hx⟩
  apply Classical.byContradiction
  intro hpm
  have hS := nodup_len (S := ((List.range n).map fun i : Nat => (i : Int)).erase (p : Int)) hnd (fun x hx => by
    obtain ⟨k, hk1, hk2⟩ := List.mem_iff_getElem.1 hx
    obtain ⟨j, q1, q2, _⟩ := hk k hk1
    have e : x = (j : Int) := by rw [← hk2, ← q2]; simp [hk1]
    have hne : x ≠ (p : Int) := fun e' => hpm (e' ▸ hx)
    refine (List.mem_erase_of_ne hne).2 ?_
    rw [e]
    exact List.mem_map.2 ⟨j, List.mem_range.2 q1, rfl⟩)
  have := List.length_erase_of_mem (a := (p : Int)) (l := (List.range n).map fun i : Nat => (i : Int)) (List.mem_map.2 ⟨p, List.mem_range.2 hp, rfl⟩)
  rw [this] at hS
  simp only [List.length_map, List.length_range] at hS
  omega
theorem plF_sortP {f : Nat → List (List Int)} : ∀ {d j : Nat}, (∀ i, j ≤ i → i < j + d → (f i).Pairwise LxT) → (∀ i i', j ≤ i → i < i' → i' < j + d → ∀ x ∈ f i, ∀ y ∈ f i', LxT x y) → (plF f d j).Pairwise LxT
  | 0, j, _, _ => List.Pairwise.nil
  | d + 1, j, h1, h2 => by
    simp only [plF]
    rw [List.pairwise_append]
    refine ⟨h1 j (Nat.le_refl _) (by omega), plF_sortP (fun i h3 h4 => h1 i (by omega) (by omega)) (fun i i' h3 h4 h5 => h2 i i' (by omega) h4 (by omega)), fun x hx y hy => ?_⟩
    obtain ⟨i, h3, h4, h5⟩ := plF_mem.1 hy
    exact h2 j i (Nat.le_refl _) (by omega) (by omega) x hx y h5
theorem plL_sortP {c : Nat → Nat} {ok : List Int → Bool} : ∀ {r : Nat} {I : List Int}, (plL c ok r I).Pairwise LxT
  | 0, I => by simp [plL]
  | r + 1, I => by
    simp only [plL]
    refine plF_sortP (fun i _ _ => ?_) (fun i i' _ hlt _ x hx y hy => ?_)
    · split
      · exact plL_sortP
      · exact List.Pairwise.nil
    · split at hx
      · split at hy
        · obtain ⟨a1, a2, _⟩ := plL_mem.1 hx
          obtain ⟨b1, b2, _⟩ := plL_mem.1 hy
          simp only [List.length_append, List.length_cons, List.length_nil, Nat.zero_add] at a1 a2 b1 b2
          have f1 := take_succ_getD (J := x) (n := I.length) (by omega)
          have f2 := take_succ_getD (J := y) (n := I.length) (by omega)
          rw [a2] at f1
          rw [b2] at f2
          have g1 := List.append_inj f1 (by simp; omega)
          have g2 := List.append_inj f2 (by simp; omega)
          refine ⟨I.length, by omega, by rw [← g1.1, ← g2.1], ?_⟩
          have k1 := g1.2
          have k2 := g2.2
          injection k1 with k1
          injection k2 with k2
          omega
        · cases hy
      · cases hx
theorem hg_sorted (n : Nat) (l : List Pt) : (hgL n (okH l) n []).Pairwise LxT := List.Pairwise.filter _ plL_sortP
/-- the opposite sentence -/
def opP (x : Pt) : Pt := ⟨x.kind, x.a, x.b, x.n, !x.no⟩
theorem ho_op (x : Pt) (J : List Int) : hoQ (opP x) J = !hoQ x J := by
  have e : isP (opP x) (plcN J (opP x).a) (plcN J (opP x).b) = isP x (plcN J x.a) (plcN J x.b) := rfl
  unfold hoQ
  rw [e]
  show (!decide (_ = !x.no)) = _
  cases isP x (plcN J x.a) (plcN J x.b) <;> cases x.no <;> rfl
theorem ok_app (l : List Pt) (x : Pt) (J : List Int) : okH (l ++ [x]) J = (okH l J && hoQ x J) := by
  unfold okH
  simp
theorem hg_both (n : Nat) (l : List Pt) (x : Pt) : (hgL n (okH (l ++ [x])) n []).length + (hgL n (okH (l ++ [opP x])) n []).length = (hgL n (okH l) n []).length := by
  unfold hgL
  generalize ordL n n [] = O
  induction O with
  | nil => rfl
  | cons J O ih =>
    simp only [List.filter_cons, ok_app, ho_op] at ih ⊢
    cases okH l J <;> cases hoQ x J <;> simp at ih ⊢ <;> omega

theorem earlier_pure {a b : List Int} (h : LxT a b) (hl : a.length = b.length) (h100 : a.length ≤ 1000) : Pure Try.prog 14 [.ints a, .ints b] (.bool true) := by
  obtain ⟨i, h1, h2, h3⟩ := h
  have heq : ∀ k, k < i → a.getD k 0 = b.getD k 0 := fun k hk => by
    have e1 : (a.take i).getD k 0 = a.getD k 0 := by simp [List.getD_eq_getElem?_getD, List.getElem?_take, hk]
    have e2 : (b.take i).getD k 0 = b.getD k 0 := by simp [List.getD_eq_getElem?_getD, List.getElem?_take, hk]
    rw [← e1, ← e2, h2]
  (refine Spec.of_body Try.func14 rfl (by rw [Try.ntmps14]; simp) 0 (by simp) ?_; rw [Try.results14, Try.ntmps14]; simp only [entry, zipArgs, Nat.reduceAdd])
  repeat (first | apply Wp.seq | apply Wp.block | (apply Run.next; (simp only [push_cast, seval] <;> (try simp (disch := omega) only [wI, wU, wC]) <;> exact rfl); (focus ((try simp only [push_cast, seval]) <;> exact sT))) | ((first | apply Run.nil | apply Wp.skip); dsimp only [sQ, tQ, bQ]) | (apply Wp.run; (dsimp only [List.map] <;> exact rfl); exact rfl) | (apply Wp.exit; dsimp only [sQ, tQ, bQ]; simp only [reduceIte]))
  refine Wp.loop (fun k : Nat => { t := [(0, .ints a), (1, .ints b), (4, .bool false), (5, .int k)], m := [], n := 36 }) (fun k => k ≤ i) (fun k => i - k) 0 ?_ ?_ ?_
  · (refine Le.of ?_ ?_ rfl rfl <;> (try simp only [push_cast, seval]) <;> (try (with_reducible rfl)))
  · simp
  · intro k hk
    have e1 : decide ((k : Int) < (a.length : Int)) = true := decide_eq_true (by omega)
    have e2 : decide ((k : Int) < (b.length : Int)) = true := decide_eq_true (by omega)
    repeat (first | apply Wp.seq | apply Wp.block | (apply Run.next; (simp only [push_cast, seval, e1, e2] <;> (try simp (disch := omega) only [wI, wU, wC]) <;> exact rfl); (focus ((try simp only [push_cast, seval, e1, e2]) <;> exact sT))) | ((first | apply Run.nil | apply Wp.skip); dsimp only [sQ, tQ, bQ]) | (apply Wp.run; (dsimp only [List.map] <;> exact rfl); exact rfl) | (apply Wp.exit; dsimp only [sQ, tQ, bQ]; simp only [reduceIte]) | (apply Run.gtrue; (simp only [push_cast, seval, e1, e2] <;> (try simp (disch := omega) only [wI, wU, wC]) <;> exact rfl); (simp only [push_cast, seval, e1, e2] <;> (try simp (disch := omega) only [wI, wU, wC]) <;> exact rfl)) | (apply Run.gfalse (.bool false); (simp only [push_cast, seval, e1, e2] <;> (try simp (disch := omega) only [wI, wU, wC]) <;> exact rfl); dsimp only [S.put, optG]) | (apply Wp.condT; (simp only [push_cast, seval, e1, e2] <;> (try simp (disch := omega) only [wI, wU, wC]) <;> exact rfl)) | (apply Wp.condF; (simp only [push_cast, seval, e1, e2] <;> (try simp (disch := omega) only [wI, wU, wC]) <;> exact rfl)))
    (apply Wp.runD 9 mixed; (dsimp only [List.map] <;> exact rfl); exact rfl; kernel_rfl; (dsimp only [List.take] <;> exact rfl); (dsimp only [List.drop] <;> exact rfl); (((repeat (apply Abn.next; (simp only [push_cast, seval, e1, e2] <;> (try simp (disch := omega) only [wI, wU, wC]) <;> exact rfl); (focus ((try simp only [push_cast, seval, e1, e2]) <;> exact sT))))); exact Abn.nil))
    by_cases hki : k = i
    · subst hki
      have e3 : decide (a.getD k 0 = b.getD k 0) = false := decide_eq_false (by omega)
      have e4 : decide (a.getD k 0 < b.getD k 0) = true := decide_eq_true h3
      repeat (first | apply Wp.seq | apply Wp.block | (apply Run.next; (simp only [push_cast, seval, e1, e2, e3, e4] <;> (try simp (disch := omega) only [wI, wU, wC]) <;> exact rfl); (focus ((try simp only [push_cast, seval, e1, e2, e3, e4]) <;> exact sT))) | ((first | apply Run.nil | apply Wp.skip); dsimp only [sQ, tQ, bQ]) | (apply Wp.run; (dsimp only [List.map] <;> exact rfl); exact rfl) | (apply Wp.exit; dsimp only [sQ, tQ, bQ]; simp only [reduceIte]) | (apply Run.gtrue; (simp only [push_cast, seval, e1, e2, e3, e4] <;> (try simp (disch := omega) only [wI, wU, wC]) <;> exact rfl); (simp only [push_cast, seval, e1, e2, e3, e4] <;> (try simp (disch := omega) only [wI, wU, wC]) <;> exact rfl)) | (apply Run.gfalse (.bool false); (simp only [push_cast, seval, e1, e2, e3, e4] <;> (try simp (disch := omega) only [wI, wU, wC]) <;> exact rfl); dsimp only [S.put, optG]) | (apply Wp.condT; (simp only [push_cast, seval, e1, e2, e3, e4] <;> (try simp (disch := omega) only [wI, wU, wC]) <;> exact rfl)) | (apply Wp.condF; (simp only [push_cast, seval, e1, e2, e3, e4] <;> (try simp (disch := omega) only [wI, wU, wC]) <;> exact rfl)))
      (apply Wp.runD 9 mixed; (dsimp only [List.map] <;> exact rfl); exact rfl; kernel_rfl; (dsimp only [List.take] <;> exact rfl); (dsimp only [List.drop] <;> exact rfl); (((repeat (apply Abn.next; (simp only [push_cast, seval, e1, e2, e3, e4] <;> (try simp (disch := omega) only [wI, wU, wC]) <;> exact rfl); (focus ((try simp only [push_cast, seval, e1, e2, e3, e4]) <;> exact sT))))); exact Abn.nil))
      repeat (first | apply Wp.seq | apply Wp.block | (apply Run.next; (simp only [push_cast, seval, e1, e2, e3, e4] <;> (try simp (disch := omega) only [wI, wU, wC]) <;> exact rfl); (focus ((try simp only [push_cast, seval, e1, e2, e3, e4]) <;> exact sT))) | ((first | apply Run.nil | apply Wp.skip); dsimp only [sQ, tQ, bQ]) | (apply Wp.run; (dsimp only [List.map] <;> exact rfl); exact rfl) | (apply Wp.exit; dsimp only [sQ, tQ, bQ]; simp only [reduceIte]) | (apply Run.gtrue; (simp only [push_cast, seval, e1, e2, e3, e4] <;> (try simp (disch := omega) only [wI, wU, wC]) <;> exact rfl); (simp only [push_cast, seval, e1, e2, e3, e4] <;> (try simp (disch := omega) only [wI, wU, wC]) <;> exact rfl)) | (apply Run.gfalse (.bool false); (simp only [push_cast, seval, e1, e2, e3, e4] <;> (try simp (disch := omega) only [wI, wU, wC]) <;> exact rfl); dsimp only [S.put, optG]) | (apply Wp.condT; (simp only [push_cast, seval, e1, e2, e3, e4] <;> (try simp (disch := omega) only [wI, wU, wC]) <;> exact rfl)) | (apply Wp.condF; (simp only [push_cast, seval, e1, e2, e3, e4] <;> (try simp (disch := omega) only [wI, wU, wC]) <;> exact rfl)))
      (apply Wp.ret; (try dsimp only [sQ, tQ, bQ]); apply leave0; exact rfl; (simp only [push_cast, seval, e1, e2, e3, e4] <;> (try simp (disch := omega) only [wI, wU, wC]) <;> exact rfl); all_goals (try simp only [push_cast, seval, e1, e2, e3, e4]); (try rfl))
    · have e3 : decide (a.getD k 0 = b.getD k 0) = true := decide_eq_true (heq k (by omega))
      repeat (first | apply Wp.seq | apply Wp.block | (apply Run.next; (simp only [push_cast, seval, e1, e2, e3] <;> (try simp (disch := omega) only [wI, wU, wC]) <;> exact rfl); (focus ((try simp only [push_cast, seval, e1, e2, e3]) <;> exact sT))) | ((first | apply Run.nil | apply Wp.skip); dsimp only [sQ, tQ, bQ]) | (apply Wp.run; (dsimp only [List.map] <;> exact rfl); exact rfl) | (apply Wp.exit; dsimp only [sQ, tQ, bQ]; simp only [reduceIte]) | (apply Run.gtrue; (simp only [push_cast, seval, e1, e2, e3] <;> (try simp (disch := omega) only [wI, wU, wC]) <;> exact rfl); (simp only [push_cast, seval, e1, e2, e3] <;> (try simp (disch := omega) only [wI, wU, wC]) <;> exact rfl)) | (apply Run.gfalse (.bool false); (simp only [push_cast, seval, e1, e2, e3] <;> (try simp (disch := omega) only [wI, wU, wC]) <;> exact rfl); dsimp only [S.put, optG]) | (apply Wp.condT; (simp only [push_cast, seval, e1, e2, e3] <;> (try simp (disch := omega) only [wI, wU, wC]) <;> exact rfl)) | (apply Wp.condF; (simp only [push_cast, seval, e1, e2, e3] <;> (try simp (disch := omega) only [wI, wU, wC]) <;> exact rfl)))
      refine ⟨k + 1, ?_, by omega, by omega⟩
      (refine Le.of ?_ ?_ rfl rfl <;> (try simp only [push_cast, seval, e1, e2, e3]) <;> (try (with_reducible rfl)))
theorem has_pure (l : List Int) (n : Int) (hl : l.length ≤ 1000) : Pure Try.prog 15 [.ints l, .int n] (.bool (decide (n ∈ l))) := by
  (refine Spec.of_body Try.func15 rfl (by rw [Try.ntmps15]; simp) 0 (by simp) ?_; rw [Try.results15, Try.ntmps15]; simp only [entry, zipArgs, Nat.reduceAdd])
  repeat (first | apply Wp.seq | apply Wp.block | (apply Run.next; (simp only [push_cast, seval] <;> (try simp (disch := omega) only [wI, wU, wC]) <;> exact rfl); (focus ((try simp only [push_cast, seval]) <;> exact sT))) | ((first | apply Run.nil | apply Wp.skip); dsimp only [sQ, tQ, bQ]) | (apply Wp.run; (dsimp only [List.map] <;> exact rfl); exact rfl) | (apply Wp.exit; dsimp only [sQ, tQ, bQ]; simp only [reduceIte]))
  refine Wp.loop (fun k : Nat => { t := [(0, .ints l), (1, .int n), (4, .bool false), (5, .int k)], m := [], n := 18 }) (fun k => k ≤ l.length ∧ ∀ j, j < k → l.getD j 0 ≠ n) (fun k => l.length - k) 0 ?_ ?_ ?_
  · (refine Le.of ?_ ?_ rfl rfl <;> (try simp only [push_cast, seval]) <;> (try (with_reducible rfl)))
  · simp
  · rintro k ⟨hk1, hk2⟩
    repeat (first | apply Wp.seq | apply Wp.block | (apply Run.next; (simp only [push_cast, seval] <;> (try simp (disch := omega) only [wI, wU, wC]) <;> exact rfl); (focus ((try simp only [push_cast, seval]) <;> exact sT))) | ((first | apply Run.nil | apply Wp.skip); dsimp only [sQ, tQ, bQ]) | (apply Wp.run; (dsimp only [List.map] <;> exact rfl); exact rfl) | (apply Wp.exit; dsimp only [sQ, tQ, bQ]; simp only [reduceIte]))
    (apply Wp.cond; (simp only [push_cast, seval] <;> (try simp (disch := omega) only [wI, wU, wC]) <;> exact rfl))
    · intro hc
      simp only [decide_eq_true_eq, Int.ofNat_lt] at hc
      repeat (first | apply Wp.seq | apply Wp.block | (apply Run.next; (simp only [push_cast, seval] <;> (try simp (disch := omega) only [wI, wU, wC]) <;> exact rfl); (focus ((try simp only [push_cast, seval]) <;> exact sT))) | ((first | apply Run.nil | apply Wp.skip); dsimp only [sQ, tQ, bQ]) | (apply Wp.run; (dsimp only [List.map] <;> exact rfl); exact rfl) | (apply Wp.exit; dsimp only [sQ, tQ, bQ]; simp only [reduceIte]))
      (apply Wp.cond; (simp only [push_cast, seval] <;> (try simp (disch := omega) only [wI, wU, wC]) <;> exact rfl))
      · intro hd
        simp only [decide_eq_true_eq] at hd
        repeat (first | apply Wp.seq | apply Wp.block | (apply Run.next; (simp only [push_cast, seval] <;> (try simp (disch := omega) only [wI, wU, wC]) <;> exact rfl); (focus ((try simp only [push_cast, seval]) <;> exact sT))) | ((first | apply Run.nil | apply Wp.skip); dsimp only [sQ, tQ, bQ]) | (apply Wp.run; (dsimp only [List.map] <;> exact rfl); exact rfl) | (apply Wp.exit; dsimp only [sQ, tQ, bQ]; simp only [reduceIte]))
        (apply Wp.ret; (try dsimp only [sQ, tQ, bQ]); apply leave0; exact rfl; (simp only [push_cast, seval] <;> (try simp (disch := omega) only [wI, wU, wC]) <;> exact rfl); all_goals (try simp only [push_cast, seval]); (try rfl))
        have : n ∈ l := by rw [← hd]; simp [hc]
        simp [this]
      · intro h2
        simp only [decide_eq_false_iff_not] at h2
        repeat (first | apply Wp.seq | apply Wp.block | (apply Run.next; (simp only [push_cast, seval] <;> (try simp (disch := omega) only [wI, wU, wC]) <;> exact rfl); (focus ((try simp only [push_cast, seval]) <;> exact sT))) | ((first | apply Run.nil | apply Wp.skip); dsimp only [sQ, tQ, bQ]) | (apply Wp.run; (dsimp only [List.map] <;> exact rfl); exact rfl) | (apply Wp.exit; dsimp only [sQ, tQ, bQ]; simp only [reduceIte]))
        refine ⟨k + 1, ?_, ⟨by omega, fun j hj => ?_⟩, by omega⟩
        · (refine Le.of ?_ ?_ rfl rfl <;> (try simp only [push_cast, seval]) <;> (try (with_reducible rfl)))
        · by_cases hjk : j = k
          · subst hjk; exact h2
          · exact hk2 j (by omega)
    · intro hc
      simp only [decide_eq_false_iff_not, Int.ofNat_lt] at hc
      obtain rfl : k = l.length := by omega
      have : ¬ n ∈ l := fun hm => by
        obtain ⟨j, hj, rfl⟩ := List.mem_iff_getElem.1 hm
        exact hk2 j hj (by simp [hj])
      repeat (first | apply Wp.seq | apply Wp.block | (apply Run.next; (simp only [push_cast, seval] <;> (try simp (disch := omega) only [wI, wU, wC]) <;> exact rfl); (focus ((try simp only [push_cast, seval]) <;> exact sT))) | ((first | apply Run.nil | apply Wp.skip); dsimp only [sQ, tQ, bQ]) | (apply Wp.run; (dsimp only [List.map] <;> exact rfl); exact rfl) | (apply Wp.exit; dsimp only [sQ, tQ, bQ]; simp only [reduceIte]))
      (apply Wp.ret; (try dsimp only [sQ, tQ, bQ]); apply leave0; exact rfl; (simp only [push_cast, seval] <;> (try simp (disch := omega) only [wI, wU, wC]) <;> exact rfl); all_goals (try simp only [push_cast, seval]); (try rfl))
      simp [this]
end Go.Proofs.Try
