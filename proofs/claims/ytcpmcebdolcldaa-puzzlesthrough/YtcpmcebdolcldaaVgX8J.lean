/- A part of the proof of PuzzlesThrough: contracts of functions, with plain laws that they need. -/
import Derived.Test.YtcpmcebdolcldaaVgX1J
set_option linter.all false
namespace Go.Proofs.Try
open Go.Vg

section
variable {σ : Type}
def wghS (f : Int → List Int → σ → σ × List Int) (sides : List Int) (s : σ) : Nat → σ × List Int
  | 0 => (s, sides)
  | j + 1 => f (j - 1 : Int) (wghS f sides s j).2 (wghS f sides s j).1
/-- all weighings, in the order of the code; what is done with each that is even -/
def wgh (go : σ → List Int → Int → σ) : List Int → Nat → Int → Int → List Int → σ → σ × List Int
  | [], _, sum, used, sides, s => if sum = 0 then (go s sides used, sides) else (s, sides)
  | w :: ws, i, sum, used, sides, s => wghS (fun c sides s => wgh go ws (i + 1) (sum + c * w) (used + c * c) (sides.set i c) s) sides s 3
theorem wghS_len {f : Int → List Int → σ → σ × List Int} (hf : ∀ c sides s, (f c sides s).2.length = sides.length) (sides : List Int) (s : σ) (j : Nat) : (wghS f sides s j).2.length = sides.length := by
  induction j with
  | zero => rfl
  | succ j ih => rw [wghS, hf, ih]
theorem wgh_len (go : σ → List Int → Int → σ) : ∀ (ws : List Int) (i : Nat) (sum used : Int) (sides : List Int) (s : σ), (wgh go ws i sum used sides s).2.length = sides.length
  | [], _, _, _, _, _ => by simp only [wgh]; split <;> rfl
  | w :: ws, i, sum, used, sides, s => by
    rw [wgh]; exact wghS_len (fun c sides s => by rw [wgh_len go ws]; simp) _ _ _

def wtail (N yid wid n : Nat) (sides : List Int) : Mem := [⟨0, .row 1 [.yld yid 0]⟩, ⟨0, .row 1 (sides.map AV.int)⟩, ⟨0, .row 1 [.osl (N + 1) 0 0 n]⟩, ⟨0, .row 1 [.clo 69 [.optr wid 0 0 0, .optr N 0 0 0, .optr (N + 2) 0 0 0, .optr (N + 3) 0 0 0]]⟩]

theorem getK {K : σ → Mem} {N : Nat} (hK : ∀ s, (K s).length = N) (s : σ) (l : Mem) (k : Nat) : (K s ++ l)[N + k]? = l[k]? := by
  rw [List.getElem?_append_right (by rw [hK]; omega), hK]; congr 1; omega
theorem getK0 {K : σ → Mem} {N : Nat} (hK : ∀ s, (K s).length = N) (s : σ) (l : Mem) : (K s ++ l)[N]? = l[0]? := getK hK s l 0
theorem setK {K : σ → Mem} {N : Nat} (hK : ∀ s, (K s).length = N) (s : σ) (l : Mem) (k : Nat) (e : Ent) : (K s ++ l).set (N + k) e = K s ++ l.set k e := by
  show List.set (α := Ent) _ _ _ = _
  rw [List.set_append_right _ _ (by rw [hK]; omega), hK]; congr 2; omega
theorem setK0 {K : σ → Mem} {N : Nat} (hK : ∀ s, (K s).length = N) (s : σ) (l : Mem) (e : Ent) : (K s ++ l).set N e = K s ++ l.set 0 e := setK hK s l 0 e
theorem getL {K : σ → Mem} {i : Nat} {e : Ent} (h : ∀ s, (K s)[i]? = some e) (s : σ) (l : Mem) : (K s ++ l)[i]? = some e := by
  rw [List.getElem?_append_left (List.getElem?_eq_some_iff.1 (h s)).1]; exact h s
theorem lenK {K : σ → Mem} {N : Nat} (hK : ∀ s, (K s).length = N) (s : σ) (l : Mem) : (K s ++ l).length = N + l.length := by
  rw [List.length_append, hK]
theorem takeK {K : σ → Mem} {N : Nat} (hK : ∀ s, (K s).length = N) (s : σ) (l : Mem) (k : Nat) : (K s ++ l).take (N + k) = K s ++ l.take k := by
  rw [List.take_append, List.take_of_length_le (by rw [hK]; omega), hK]; congr 2; omega
theorem takeK0 {K : σ → Mem} {N : Nat} (hK : ∀ s, (K s).length = N) (s : σ) (l : Mem) : (K s ++ l).take N = K s := by
  have := takeK hK s l 0; simpa using this

theorem wok (K : σ → Mem) (N yid wid : Nat) (hK : ∀ s, (K s).length = N) (hN : wid < N) (hKok : ∀ s k, N ≤ k → ∀ e ∈ K s, e.kind.ok k) (hyid : yid < N) (s : σ) (sides : List Int) (n : Nat) : ∀ e ∈ (K s ++ wtail N yid wid n sides).take (N + 4), e.kind.ok (N + 4) := by
  rw [takeK hK]
  intro e he
  rcases List.mem_append.1 he with h | h
  · exact hKok s _ (by omega) e h
  · have h2 : ∀ e ∈ wtail N yid wid n sides, e.kind.ok (N + 4) := by
      unfold wtail
      simp only [push_cast, seval]
      omega
    exact h2 e h
variable (K : σ → Mem) (N yid wid : Nat) (hK : ∀ s, (K s).length = N) (hN : wid < N) (ws : List Int) (hw : ∀ s, (K s)[wid]? = some ⟨0, .row 1 [.ints ws]⟩) (hKok : ∀ s k, N ≤ k → ∀ e ∈ K s, e.kind.ok k) (hyid : yid < N)
  (go : σ → List Int → Int → σ)
  (hY : ∀ s sides used, sides.length = ws.length → YSpec Try.prog (.yld yid 0) [.osl (N + 1) 0 0 ws.length, .int used] (K s ++ wtail N yid wid ws.length sides) fun x m' => x = .bool true ∧ m' = K (go s sides used) ++ wtail N yid wid ws.length sides)
  (hws : bnd 10000 ws) (hn : ws.length ≤ 10)
include hK hN hw hKok hyid hY hws hn
set_option maxHeartbeats 4000000 in
theorem weigh98 : ∀ (rest pre : List Int) (hpr : ws = pre ++ rest) (p : Nat) (hp : pre.length = p) (i : Int) (hi : i = p) (sum used : Int) (sides : List Int) (s : σ) (hsl : sides.length = ws.length) (hs1 : -(100000 + 10000 * i) ≤ sum ∧ sum ≤ 100000 + 10000 * i) (hs2 : 0 ≤ used ∧ used ≤ i),
    Go.Vg.Spec Try.prog 69 [.int i, .int sum, .int used, .optr wid 0 0 0, .optr N 0 0 0, .optr (N + 2) 0 0 0, .optr (N + 3) 0 0 0] (K s ++ wtail N yid wid ws.length sides)
      fun x m' => x = .bool true ∧ m' = K (wgh go rest p sum used sides s).1 ++ wtail N yid wid ws.length (wgh go rest p sum used sides s).2 := by
  intro rest
  induction rest with
  | nil =>
    intro pre hpr p hp i hi sum used sides s hsl hs1 hs2
    have hpl : ws.length = pre.length := by rw [hpr]; simp
    unfold wtail
    (refine Spec.of_body Try.func69 rfl (by rw [Try.ntmps69]; simp) (N + 4) (by rw [lenK hK]; simp) ?_; rw [Try.results69, Try.ntmps69]; simp only [entry, zipArgs, Nat.reduceAdd])
    repeat (first | apply Wp.seq | apply Wp.block | (apply Run.next; (simp only [push_cast, seval, getK hK, getK0 hK, setK hK, setK0 hK, getL hw, lenK hK, hK, List.append_assoc, takeK hK, takeK0 hK] <;> (try simp (disch := omega) only [wI, wU, wC]) <;> exact rfl); (focus ((try simp only [push_cast, seval, getK hK, getK0 hK, setK hK, setK0 hK, getL hw, lenK hK, hK, List.append_assoc, takeK hK, takeK0 hK]) <;> exact sT))) | ((first | apply Run.nil | apply Wp.skip); dsimp only [sQ, tQ, bQ]) | (apply Wp.run; (dsimp only [List.map] <;> exact rfl); exact rfl) | (apply Wp.exit; dsimp only [sQ, tQ, bQ]; simp only [reduceIte]))
    (apply Wp.cond; (simp only [push_cast, seval, getK hK, getK0 hK, setK hK, setK0 hK, getL hw, lenK hK, hK, List.append_assoc, takeK hK, takeK0 hK] <;> (try simp (disch := omega) only [wI, wU, wC]) <;> exact rfl))
    · (intro hc; try simp only [decide_eq_true_eq, decide_eq_false_iff_not, Bool.and_eq_true, Bool.or_eq_true, Bool.not_eq_true, Bool.not_eq_false, Bool.not_eq_true', Bool.not_eq_false', Bool.and_eq_false_iff, Bool.or_eq_false_iff, Int.not_lt, Int.not_le, Int.ofNat_lt, Int.ofNat_le] at hc)
      by_cases h0 : sum = 0
      · subst h0
        repeat (first | apply Wp.seq | apply Wp.block | (apply Run.next; (simp only [push_cast, seval, getK hK, getK0 hK, setK hK, setK0 hK, getL hw, lenK hK, hK, List.append_assoc, takeK hK, takeK0 hK] <;> (try simp (disch := omega) only [wI, wU, wC]) <;> exact rfl); (focus ((try simp only [push_cast, seval, getK hK, getK0 hK, setK hK, setK0 hK, getL hw, lenK hK, hK, List.append_assoc, takeK hK, takeK0 hK]) <;> exact sT))) | ((first | apply Run.nil | apply Wp.skip); dsimp only [sQ, tQ, bQ]) | (apply Wp.run; (dsimp only [List.map] <;> exact rfl); exact rfl) | (apply Wp.exit; dsimp only [sQ, tQ, bQ]; simp only [reduceIte]))
        (try (apply Run.gtrue; (simp only [push_cast, seval, getK hK, getK0 hK, setK hK, setK0 hK, getL hw, lenK hK, hK, List.append_assoc, takeK hK, takeK0 hK] <;> (try simp (disch := omega) only [wI, wU, wC]) <;> exact rfl); (simp only [push_cast, seval, getK hK, getK0 hK, setK hK, setK0 hK, getL hw, lenK hK, hK, List.append_assoc, takeK hK, takeK0 hK] <;> (try simp (disch := omega) only [wI, wU, wC]) <;> exact rfl)))
        (apply Run.ycall; exact rfl; (simp only [push_cast, seval, getK hK, getK0 hK, setK hK, setK0 hK, getL hw, lenK hK, hK, List.append_assoc, takeK hK, takeK0 hK] <;> (try simp (disch := omega) only [wI, wU, wC]) <;> exact rfl); (simp only [push_cast, seval, getK hK, getK0 hK, setK hK, setK0 hK, getL hw, lenK hK, hK, List.append_assoc, takeK hK, takeK0 hK] <;> (try simp (disch := omega) only [wI, wU, wC]) <;> exact rfl); (exact hY s sides used hsl); (rintro _ _ ⟨rfl, rfl⟩; dsimp only [S.put, optG]))
        repeat (first | apply Wp.seq | apply Wp.block | (apply Run.next; (simp only [push_cast, seval, getK hK, getK0 hK, setK hK, setK0 hK, getL hw, lenK hK, hK, List.append_assoc, takeK hK, takeK0 hK] <;> (try simp (disch := omega) only [wI, wU, wC]) <;> exact rfl); (focus ((try simp only [push_cast, seval, getK hK, getK0 hK, setK hK, setK0 hK, getL hw, lenK hK, hK, List.append_assoc, takeK hK, takeK0 hK]) <;> exact sT))) | ((first | apply Run.nil | apply Wp.skip); dsimp only [sQ, tQ, bQ]) | (apply Wp.run; (dsimp only [List.map] <;> exact rfl); exact rfl) | (apply Wp.exit; dsimp only [sQ, tQ, bQ]; simp only [reduceIte]))
        (apply Wp.ret; (try dsimp only [sQ, tQ, bQ]); apply leaveK; exact rfl; (simp only [push_cast, seval, getK hK, getK0 hK, setK hK, setK0 hK, getL hw, lenK hK, hK, List.append_assoc, takeK hK, takeK0 hK] <;> (try simp (disch := omega) only [wI, wU, wC]) <;> exact rfl); (focus (first | (simp only [push_cast, seval, getK hK, getK0 hK, setK hK, setK0 hK, getL hw, lenK hK, hK, List.append_assoc, takeK hK, takeK0 hK]; done) | trivial | (simp only [push_cast, seval, getK hK, getK0 hK, setK hK, setK0 hK, getL hw, lenK hK, hK, List.append_assoc, takeK hK, takeK0 hK]; trivial) | (simp; done))); (focus (first | (simp only [push_cast, seval, getK hK, getK0 hK, setK hK, setK0 hK, getL hw, lenK hK, hK, List.append_assoc, takeK hK, takeK0 hK]; done) | trivial | (simp only [push_cast, seval, getK hK, getK0 hK, setK hK, setK0 hK, getL hw, lenK hK, hK, List.append_assoc, takeK hK, takeK0 hK]; trivial) | (simp; done))); (exact wok K N yid wid hK hN hKok hyid _ _ _); (try simp only [push_cast, seval, getK hK, getK0 hK, setK hK, setK0 hK, getL hw, lenK hK, hK, List.append_assoc, takeK hK, takeK0 hK]))
        simp [wgh, wtail]
      · repeat (first | apply Wp.seq | apply Wp.block | (apply Run.next; (simp only [push_cast, seval, getK hK, getK0 hK, setK hK, setK0 hK, getL hw, lenK hK, hK, List.append_assoc, takeK hK, takeK0 hK, h0] <;> (try simp (disch := omega) only [wI, wU, wC]) <;> exact rfl); (focus ((try simp only [push_cast, seval, getK hK, getK0 hK, setK hK, setK0 hK, getL hw, lenK hK, hK, List.append_assoc, takeK hK, takeK0 hK, h0]) <;> exact sT))) | ((first | apply Run.nil | apply Wp.skip); dsimp only [sQ, tQ, bQ]) | (apply Wp.run; (dsimp only [List.map] <;> exact rfl); exact rfl) | (apply Wp.exit; dsimp only [sQ, tQ, bQ]; simp only [reduceIte]))
        (try (apply Run.gfalse (.bool false); (simp only [push_cast, seval, getK hK, getK0 hK, setK hK, setK0 hK, getL hw, lenK hK, hK, List.append_assoc, takeK hK, takeK0 hK, h0] <;> (try simp (disch := omega) only [wI, wU, wC]) <;> exact rfl); dsimp only [S.put, optG]))
        repeat (first | apply Wp.seq | apply Wp.block | (apply Run.next; (simp only [push_cast, seval, getK hK, getK0 hK, setK hK, setK0 hK, getL hw, lenK hK, hK, List.append_assoc, takeK hK, takeK0 hK, h0] <;> (try simp (disch := omega) only [wI, wU, wC]) <;> exact rfl); (focus ((try simp only [push_cast, seval, getK hK, getK0 hK, setK hK, setK0 hK, getL hw, lenK hK, hK, List.append_assoc, takeK hK, takeK0 hK, h0]) <;> exact sT))) | ((first | apply Run.nil | apply Wp.skip); dsimp only [sQ, tQ, bQ]) | (apply Wp.run; (dsimp only [List.map] <;> exact rfl); exact rfl) | (apply Wp.exit; dsimp only [sQ, tQ, bQ]; simp only [reduceIte]))
        (apply Wp.ret; (try dsimp only [sQ, tQ, bQ]); apply leaveK; exact rfl; (simp only [push_cast, seval, getK hK, getK0 hK, setK hK, setK0 hK, getL hw, lenK hK, hK, List.append_assoc, takeK hK, takeK0 hK, h0] <;> (try simp (disch := omega) only [wI, wU, wC]) <;> exact rfl); (focus (first | (simp only [push_cast, seval, getK hK, getK0 hK, setK hK, setK0 hK, getL hw, lenK hK, hK, List.append_assoc, takeK hK, takeK0 hK, h0]; done) | trivial | (simp only [push_cast, seval, getK hK, getK0 hK, setK hK, setK0 hK, getL hw, lenK hK, hK, List.append_assoc, takeK hK, takeK0 hK, h0]; trivial) | (simp; done))); (focus (first | (simp only [push_cast, seval, getK hK, getK0 hK, setK hK, setK0 hK, getL hw, lenK hK, hK, List.append_assoc, takeK hK, takeK0 hK, h0]; done) | trivial | (simp only [push_cast, seval, getK hK, getK0 hK, setK hK, setK0 hK, getL hw, lenK hK, hK, List.append_assoc, takeK hK, takeK0 hK, h0]; trivial) | (simp; done))); (exact wok K N yid wid hK hN hKok hyid _ _ _); (try simp only [push_cast, seval, getK hK, getK0 hK, setK hK, setK0 hK, getL hw, lenK hK, hK, List.append_assoc, takeK hK, takeK0 hK, h0]))
        simp [wgh, h0]
    · (intro hc; try simp only [decide_eq_true_eq, decide_eq_false_iff_not, Bool.and_eq_true, Bool.or_eq_true, Bool.not_eq_true, Bool.not_eq_false, Bool.not_eq_true', Bool.not_eq_false', Bool.and_eq_false_iff, Bool.or_eq_false_iff, Int.not_lt, Int.not_le, Int.ofNat_lt, Int.ofNat_le] at hc)
      omega
  | cons w rest ih =>
    intro pre hpr p hp i hi sum used sides s hsl hs1 hs2
    subst hi
    have hpl : ws.length = pre.length + (rest.length + 1) := by rw [hpr]; simp
    have hwi : ws.getD p 0 = w := by rw [hpr, ← hp]; simp
    have hwb := hws w (by rw [hpr]; simp)
    unfold wtail
    (refine Spec.of_body Try.func69 rfl (by rw [Try.ntmps69]; simp) (N + 4) (by rw [lenK hK]; simp) ?_; rw [Try.results69, Try.ntmps69]; simp only [entry, zipArgs, Nat.reduceAdd])
    repeat (first | apply Wp.seq | apply Wp.block | (apply Run.next; (simp only [push_cast, seval, getK hK, getK0 hK, setK hK, setK0 hK, getL hw, lenK hK, hK, List.append_assoc, takeK hK, takeK0 hK] <;> (try simp (disch := omega) only [wI, wU, wC]) <;> exact rfl); (focus ((try simp only [push_cast, seval, getK hK, getK0 hK, setK hK, setK0 hK, getL hw, lenK hK, hK, List.append_assoc, takeK hK, takeK0 hK]) <;> exact sT))) | ((first | apply Run.nil | apply Wp.skip); dsimp only [sQ, tQ, bQ]) | (apply Wp.run; (dsimp only [List.map] <;> exact rfl); exact rfl) | (apply Wp.exit; dsimp only [sQ, tQ, bQ]; simp only [reduceIte]))
    (apply Wp.cond; (simp only [push_cast, seval, getK hK, getK0 hK, setK hK, setK0 hK, getL hw, lenK hK, hK, List.append_assoc, takeK hK, takeK0 hK] <;> (try simp (disch := omega) only [wI, wU, wC]) <;> exact rfl))
    · (intro hc; try simp only [decide_eq_true_eq, decide_eq_false_iff_not, Bool.and_eq_true, Bool.or_eq_true, Bool.not_eq_true, Bool.not_eq_false, Bool.not_eq_true', Bool.not_eq_false', Bool.and_eq_false_iff, Bool.or_eq_false_iff, Int.not_lt, Int.not_le, Int.ofNat_lt, Int.ofNat_le] at hc)
      omega
    · (intro hc; try simp only [decide_eq_true_eq, decide_eq_false_iff_not, Bool.and_eq_true, Bool.or_eq_true, Bool.not_eq_true, Bool.not_eq_false, Bool.not_eq_true', Bool.not_eq_false', Bool.and_eq_false_iff, Bool.or_eq_false_iff, Int.not_lt, Int.not_le, Int.ofNat_lt, Int.ofNat_le] at hc)
      repeat (first | apply Wp.seq | apply Wp.block | (apply Run.next; (simp only [push_cast, seval, getK hK, getK0 hK, setK hK, setK0 hK, getL hw, lenK hK, hK, List.append_assoc, takeK hK, takeK0 hK] <;> (try simp (disch := omega) only [wI, wU, wC]) <;> exact rfl); (focus ((try simp only [push_cast, seval, getK hK, getK0 hK, setK hK, setK0 hK, getL hw, lenK hK, hK, List.append_assoc, takeK hK, takeK0 hK]) <;> exact sT))) | ((first | apply Run.nil | apply Wp.skip); dsimp only [sQ, tQ, bQ]) | (apply Wp.run; (dsimp only [List.map] <;> exact rfl); exact rfl) | (apply Wp.exit; dsimp only [sQ, tQ, bQ]; simp only [reduceIte]))
      obtain ⟨f, hf⟩ : ∃ f : Int → List Int → σ → σ × List Int, f = fun c sides s => wgh go rest (p + 1) (sum + c * w) (used + c * c) (sides.set p c) s := ⟨_, rfl⟩
      have hfl : ∀ j, (wghS f sides s j).2.length = sides.length := fun j => wghS_len (fun c sides s => by rw [hf, wgh_len]; simp) _ _ _
      refine Wp.loop (fun j : Nat => { t := [(0, .int p), (1, .int sum), (2, .int used), (3, .optr wid 0 0 0), (4, .optr N 0 0 0), (5, .optr (N + 2) 0 0 0), (6, .optr (N + 3) 0 0 0), (11, .int (j - 1))], m := K (wghS f sides s j).1 ++ [⟨0, .row 1 [.yld yid 0]⟩, ⟨0, .row 1 ((wghS f sides s j).2.map AV.int)⟩, ⟨0, .row 1 [.osl (N + 1) 0 0 ws.length]⟩, ⟨0, .row 1 [.clo 69 [.optr wid 0 0 0, .optr N 0 0 0, .optr (N + 2) 0 0 0, .optr (N + 3) 0 0 0]]⟩], n := 50 }) (fun j => j ≤ 3) (fun j => 3 - j) 0 ?_ ?_ ?_
      · (refine Le.of ?_ ?_ rfl rfl <;> (try simp only [push_cast, seval, getK hK, getK0 hK, setK hK, setK0 hK, getL hw, lenK hK, hK, List.append_assoc, takeK hK, takeK0 hK, hwi]) <;> (try (with_reducible rfl)))
        all_goals rfl
      · omega
      · intro j hj
        have hjl := hfl j
        repeat (first | apply Wp.seq | apply Wp.block | (apply Run.next; (simp only [push_cast, seval, getK hK, getK0 hK, setK hK, setK0 hK, getL hw, lenK hK, hK, List.append_assoc, takeK hK, takeK0 hK, hwi] <;> (try simp (disch := omega) only [wI, wU, wC]) <;> exact rfl); (focus ((try simp only [push_cast, seval, getK hK, getK0 hK, setK hK, setK0 hK, getL hw, lenK hK, hK, List.append_assoc, takeK hK, takeK0 hK, hwi]) <;> exact sT))) | ((first | apply Run.nil | apply Wp.skip); dsimp only [sQ, tQ, bQ]) | (apply Wp.run; (dsimp only [List.map] <;> exact rfl); exact rfl) | (apply Wp.exit; dsimp only [sQ, tQ, bQ]; simp only [reduceIte]))
        (apply Wp.cond; (simp only [push_cast, seval, getK hK, getK0 hK, setK hK, setK0 hK, getL hw, lenK hK, hK, List.append_assoc, takeK hK, takeK0 hK, hwi] <;> (try simp (disch := omega) only [wI, wU, wC]) <;> exact rfl))
        · (intro hc; try simp only [decide_eq_true_eq, decide_eq_false_iff_not, Bool.and_eq_true, Bool.or_eq_true, Bool.not_eq_true, Bool.not_eq_false, Bool.not_eq_true', Bool.not_eq_false', Bool.and_eq_false_iff, Bool.or_eq_false_iff, Int.not_lt, Int.not_le, Int.ofNat_lt, Int.ofNat_le] at hc)
          have hcw : -10000 ≤ ((j : Int) - 1) * w ∧ ((j : Int) - 1) * w ≤ 10000 := by
            obtain rfl | rfl | rfl : j = 0 ∨ j = 1 ∨ j = 2 := by omega
            all_goals (simp; try omega)
          have hcc : 0 ≤ ((j : Int) - 1) * ((j : Int) - 1) ∧ ((j : Int) - 1) * ((j : Int) - 1) ≤ 1 := by
            obtain rfl | rfl | rfl : j = 0 ∨ j = 1 ∨ j = 2 := by omega
            all_goals simp
          repeat (first | apply Wp.seq | apply Wp.block | (apply Run.next; (simp only [push_cast, seval, getK hK, getK0 hK, setK hK, setK0 hK, getL hw, lenK hK, hK, List.append_assoc, takeK hK, takeK0 hK, hwi] <;> (try simp (disch := omega) only [wI, wU, wC]) <;> exact rfl); (focus ((try simp only [push_cast, seval, getK hK, getK0 hK, setK hK, setK0 hK, getL hw, lenK hK, hK, List.append_assoc, takeK hK, takeK0 hK, hwi]) <;> exact sT))) | ((first | apply Run.nil | apply Wp.skip); dsimp only [sQ, tQ, bQ]) | (apply Wp.run; (dsimp only [List.map] <;> exact rfl); exact rfl) | (apply Wp.exit; dsimp only [sQ, tQ, bQ]; simp only [reduceIte]))
          (apply Wp.runD 16 mixed; (dsimp only [List.map] <;> exact rfl); exact rfl; kernel_rfl; (dsimp only [List.take] <;> exact rfl); (dsimp only [List.drop] <;> exact rfl); (((repeat (apply Abn.next; (simp only [push_cast, seval, getK hK, getK0 hK, setK hK, setK0 hK, getL hw, lenK hK, hK, List.append_assoc, takeK hK, takeK0 hK, hwi] <;> (try simp (disch := omega) only [wI, wU, wC]) <;> exact rfl); (focus ((try simp only [push_cast, seval, getK hK, getK0 hK, setK hK, setK0 hK, getL hw, lenK hK, hK, List.append_assoc, takeK hK, takeK0 hK, hwi]) <;> exact sT))))); exact Abn.nil))
          (apply Run.spec (he := (Enters.of Try.func69 rfl rfl)); exact rfl; (simp only [push_cast, seval, getK hK, getK0 hK, setK hK, setK0 hK, getL hw, lenK hK, hK, List.append_assoc, takeK hK, takeK0 hK, hwi] <;> first | exact rfl | assumption); (simp only [push_cast, seval, getK hK, getK0 hK, setK hK, setK0 hK, getL hw, lenK hK, hK, List.append_assoc, takeK hK, takeK0 hK, hwi] <;> (try simp (disch := omega) only [wI, wU, wC]) <;> exact rfl); (exact ih (pre ++ [w]) (by rw [hpr]; simp) (p + 1) (by simp [hp]) (p + 1) (by simp) (sum + (j - 1) * w) (used + (j - 1) * (j - 1)) ((wghS f sides s j).2.set p (j - 1)) (wghS f sides s j).1 (by rw [List.length_set, hjl, hsl]) (by omega) (by omega)); (rintro _ _ ⟨rfl, rfl⟩; dsimp only [S.put, optG]))
          repeat (first | apply Wp.seq | apply Wp.block | (apply Run.next; (simp only [push_cast, seval, getK hK, getK0 hK, setK hK, setK0 hK, getL hw, lenK hK, hK, List.append_assoc, takeK hK, takeK0 hK, hwi] <;> (try simp (disch := omega) only [wI, wU, wC]) <;> exact rfl); (focus ((try simp only [push_cast, seval, getK hK, getK0 hK, setK hK, setK0 hK, getL hw, lenK hK, hK, List.append_assoc, takeK hK, takeK0 hK, hwi]) <;> exact sT))) | ((first | apply Run.nil | apply Wp.skip); dsimp only [sQ, tQ, bQ]) | (apply Wp.run; (dsimp only [List.map] <;> exact rfl); exact rfl) | (apply Wp.exit; dsimp only [sQ, tQ, bQ]; simp only [reduceIte]))
          (apply Wp.cond; (simp only [push_cast, seval, getK hK, getK0 hK, setK hK, setK0 hK, getL hw, lenK hK, hK, List.append_assoc, takeK hK, takeK0 hK, hwi] <;> (try simp (disch := omega) only [wI, wU, wC]) <;> exact rfl))
          · (intro hc; try simp only [decide_eq_true_eq, decide_eq_false_iff_not, Bool.and_eq_true, Bool.or_eq_true, Bool.not_eq_true, Bool.not_eq_false, Bool.not_eq_true', Bool.not_eq_false', Bool.and_eq_false_iff, Bool.or_eq_false_iff, Int.not_lt, Int.not_le, Int.ofNat_lt, Int.ofNat_le] at hc)
            cases hc
          · intro h2
            repeat (first | apply Wp.seq | apply Wp.block | (apply Run.next; (simp only [push_cast, seval, getK hK, getK0 hK, setK hK, setK0 hK, getL hw, lenK hK, hK, List.append_assoc, takeK hK, takeK0 hK, hwi] <;> (try simp (disch := omega) only [wI, wU, wC]) <;> exact rfl); (focus ((try simp only [push_cast, seval, getK hK, getK0 hK, setK hK, setK0 hK, getL hw, lenK hK, hK, List.append_assoc, takeK hK, takeK0 hK, hwi]) <;> exact sT))) | ((first | apply Run.nil | apply Wp.skip); dsimp only [sQ, tQ, bQ]) | (apply Wp.run; (dsimp only [List.map] <;> exact rfl); exact rfl) | (apply Wp.exit; dsimp only [sQ, tQ, bQ]; simp only [reduceIte]))
            refine ⟨j + 1, ?_, by omega, by omega⟩
            (refine Le.of ?_ ?_ rfl rfl <;> (try simp only [push_cast, seval, getK hK, getK0 hK, setK hK, setK0 hK, getL hw, lenK hK, hK, List.append_assoc, takeK hK, takeK0 hK, hwi]) <;> (try (with_reducible rfl)))
            · rw [wghS, hf]; rfl
            · congr 2; omega
        · (intro hc; try simp only [decide_eq_true_eq, decide_eq_false_iff_not, Bool.and_eq_true, Bool.or_eq_true, Bool.not_eq_true, Bool.not_eq_false, Bool.not_eq_true', Bool.not_eq_false', Bool.and_eq_false_iff, Bool.or_eq_false_iff, Int.not_lt, Int.not_le, Int.ofNat_lt, Int.ofNat_le] at hc)
          obtain rfl : j = 3 := by omega
          repeat (first | apply Wp.seq | apply Wp.block | (apply Run.next; (simp only [push_cast, seval, getK hK, getK0 hK, setK hK, setK0 hK, getL hw, lenK hK, hK, List.append_assoc, takeK hK, takeK0 hK, hwi] <;> (try simp (disch := omega) only [wI, wU, wC]) <;> exact rfl); (focus ((try simp only [push_cast, seval, getK hK, getK0 hK, setK hK, setK0 hK, getL hw, lenK hK, hK, List.append_assoc, takeK hK, takeK0 hK, hwi]) <;> exact sT))) | ((first | apply Run.nil | apply Wp.skip); dsimp only [sQ, tQ, bQ]) | (apply Wp.run; (dsimp only [List.map] <;> exact rfl); exact rfl) | (apply Wp.exit; dsimp only [sQ, tQ, bQ]; simp only [reduceIte]))
          (apply Wp.ret; (try dsimp only [sQ, tQ, bQ]); apply leaveK; exact rfl; (simp only [push_cast, seval, getK hK, getK0 hK, setK hK, setK0 hK, getL hw, lenK hK, hK, List.append_assoc, takeK hK, takeK0 hK, hwi] <;> (try simp (disch := omega) only [wI, wU, wC]) <;> exact rfl); (focus (first | (simp only [push_cast, seval, getK hK, getK0 hK, setK hK, setK0 hK, getL hw, lenK hK, hK, List.append_assoc, takeK hK, takeK0 hK, hwi]; done) | trivial | (simp only [push_cast, seval, getK hK, getK0 hK, setK hK, setK0 hK, getL hw, lenK hK, hK, List.append_assoc, takeK hK, takeK0 hK, hwi]; trivial) | (simp; done))); (focus (first | (simp only [push_cast, seval, getK hK, getK0 hK, setK hK, setK0 hK, getL hw, lenK hK, hK, List.append_assoc, takeK hK, takeK0 hK, hwi]; done) | trivial | (simp only [push_cast, seval, getK hK, getK0 hK, setK hK, setK0 hK, getL hw, lenK hK, hK, List.append_assoc, takeK hK, takeK0 hK, hwi]; trivial) | (simp; done))); (exact wok K N yid wid hK hN hKok hyid _ _ _); (try simp only [push_cast, seval, getK hK, getK0 hK, setK hK, setK0 hK, getL hw, lenK hK, hK, List.append_assoc, takeK hK, takeK0 hK, hwi]))
          rw [wgh, hf]

theorem weigh97 (lid : Nat) (load : Int) (hl : ∀ s, (K s)[lid]? = some ⟨0, .row 1 [.int load]⟩) (hld : -100000 ≤ load ∧ load ≤ 100000) (s : σ) :
    Go.Vg.Spec Try.prog 68 [.yld yid 0, .optr wid 0 0 0, .optr lid 0 0 0] (K s) fun _ m' => m' = K (wgh go ws 0 (0 - load) 0 (List.replicate ws.length 0) s).1 := by
  (refine Spec.of_body Try.func68 rfl (by rw [Try.ntmps68]; simp) N (by rw [hK]; simp) ?_; rw [Try.results68, Try.ntmps68]; simp only [entry, zipArgs, Nat.reduceAdd])
  repeat (first | apply Wp.seq | apply Wp.block | (apply Run.next; (simp only [push_cast, seval, getK hK, getK0 hK, setK hK, setK0 hK, getL hw, getL hl, lenK hK, hK, List.append_assoc, takeK hK, takeK0 hK, hw, hl] <;> (try simp (disch := omega) only [wI, wU, wC]) <;> exact rfl); (focus ((try simp only [push_cast, seval, getK hK, getK0 hK, setK hK, setK0 hK, getL hw, getL hl, lenK hK, hK, List.append_assoc, takeK hK, takeK0 hK, hw, hl]) <;> exact sT))) | ((first | apply Run.nil | apply Wp.skip); dsimp only [sQ, tQ, bQ]) | (apply Wp.run; (dsimp only [List.map] <;> exact rfl); exact rfl) | (apply Wp.exit; dsimp only [sQ, tQ, bQ]; simp only [reduceIte]))
  (apply Run.spec (he := (Enters.of Try.func69 rfl rfl)); exact rfl; (simp only [push_cast, seval, getK hK, getK0 hK, setK hK, setK0 hK, getL hw, getL hl, lenK hK, hK, List.append_assoc, takeK hK, takeK0 hK, hw, hl] <;> first | exact rfl | assumption); (simp only [push_cast, seval, getK hK, getK0 hK, setK hK, setK0 hK, getL hw, getL hl, lenK hK, hK, List.append_assoc, takeK hK, takeK0 hK, hw, hl] <;> (try simp (disch := omega) only [wI, wU, wC]) <;> exact rfl); (exact weigh98 K N yid wid hK hN ws hw hKok hyid go hY hws hn ws [] rfl 0 rfl 0 rfl (0 - load) 0 (List.replicate ws.length 0) s (by simp) (by omega) (by omega)); (rintro _ _ ⟨rfl, rfl⟩; dsimp only [S.put, optG]))
  repeat (first | apply Wp.seq | apply Wp.block | (apply Run.next; (simp only [push_cast, seval, getK hK, getK0 hK, setK hK, setK0 hK, getL hw, getL hl, lenK hK, hK, List.append_assoc, takeK hK, takeK0 hK, hw, hl] <;> (try simp (disch := omega) only [wI, wU, wC]) <;> exact rfl); (focus ((try simp only [push_cast, seval, getK hK, getK0 hK, setK hK, setK0 hK, getL hw, getL hl, lenK hK, hK, List.append_assoc, takeK hK, takeK0 hK, hw, hl]) <;> exact sT))) | ((first | apply Run.nil | apply Wp.skip); dsimp only [sQ, tQ, bQ]) | (apply Wp.run; (dsimp only [List.map] <;> exact rfl); exact rfl) | (apply Wp.exit; dsimp only [sQ, tQ, bQ]; simp only [reduceIte]))
  apply Run.nil
  apply leaveN; exact rfl; (simp only [push_cast, seval, getK hK, getK0 hK, setK hK, setK0 hK, getL hw, getL hl, lenK hK, hK, List.append_assoc, takeK hK, takeK0 hK, hw, hl] <;> (try simp (disch := omega) only [wI, wU, wC]) <;> exact rfl); (focus (first | (simp only [push_cast, seval, getK hK, getK0 hK, setK hK, setK0 hK, getL hw, getL hl, lenK hK, hK, List.append_assoc, takeK hK, takeK0 hK, hw, hl]; done) | trivial | (simp only [push_cast, seval, getK hK, getK0 hK, setK hK, setK0 hK, getL hw, getL hl, lenK hK, hK, List.append_assoc, takeK hK, takeK0 hK, hw, hl]; trivial) | (simp; done))); (focus (first | (simp only [push_cast, seval, getK hK, getK0 hK, setK hK, setK0 hK, getL hw, getL hl, lenK hK, hK, List.append_assoc, takeK hK, takeK0 hK, hw, hl]; done) | trivial | (simp only [push_cast, seval, getK hK, getK0 hK, setK hK, setK0 hK, getL hw, getL hl, lenK hK, hK, List.append_assoc, takeK hK, takeK0 hK, hw, hl]; trivial) | (simp; done)))
  · rw [takeK0 hK]; exact hKok _ _ (Nat.le_refl _)
  · rw [takeK0 hK]
end
end Go.Proofs.Try
namespace Go.Proofs.Try
open Go.Vg

theorem weighed1_pure (n : Int) : Pure Try.prog 67 [.int n] (.bool (!(decide (1 ≤ n) && decide (n ≤ 10000)))) := by
  (refine Spec.of_body Try.func67 rfl (by rw [Try.ntmps67]; simp) 0 (by simp) ?_; rw [Try.results67, Try.ntmps67]; simp only [entry, zipArgs, Nat.reduceAdd])
  repeat (first | apply Wp.seq | apply Wp.block | (apply Run.next; (simp only [push_cast, seval] <;> (try simp (disch := omega) only [wI, wU, wC]) <;> exact rfl); (focus ((try simp only [push_cast, seval]) <;> exact sT))) | ((first | apply Run.nil | apply Wp.skip); dsimp only [sQ, tQ, bQ]) | (apply Wp.run; (dsimp only [List.map] <;> exact rfl); exact rfl) | (apply Wp.exit; dsimp only [sQ, tQ, bQ]; simp only [reduceIte]))
  (apply Run.pureP; (simp only [push_cast, seval] <;> (try simp (disch := omega) only [wI, wU, wC]) <;> exact rfl); (exact (Enters.of Try.func24 rfl rfl)); (exact within_pure _ _ _); (focus (simp only [push_cast, seval] <;> first | trivial | assumption | (refine ⟨?_, ?_⟩ <;> assumption) | (simp; done))); (try dsimp only [putA, optG]))
  repeat (first | apply Wp.seq | apply Wp.block | (apply Run.next; (simp only [push_cast, seval] <;> (try simp (disch := omega) only [wI, wU, wC]) <;> exact rfl); (focus ((try simp only [push_cast, seval]) <;> exact sT))) | ((first | apply Run.nil | apply Wp.skip); dsimp only [sQ, tQ, bQ]) | (apply Wp.run; (dsimp only [List.map] <;> exact rfl); exact rfl) | (apply Wp.exit; dsimp only [sQ, tQ, bQ]; simp only [reduceIte]))
  (apply Wp.ret; (try dsimp only [sQ, tQ, bQ]); apply leave0; exact rfl; (simp only [push_cast, seval] <;> (try simp (disch := omega) only [wI, wU, wC]) <;> exact rfl); all_goals (try simp only [push_cast, seval]); (try rfl))

def weighedB (ws : List Int) (load : Int) : Bool := decide ((ws.length : Int) ≤ 10) && (decide (0 ≤ load) && decide (load ≤ 10000)) && ws.all fun n => decide (1 ≤ n) && decide (n ≤ 10000)

theorem weighed_pure (ws : List Int) (load : Int) : Pure Try.prog 52 [.ints ws, .int load] (.bool (weighedB ws load)) := by
  (refine Spec.of_body Try.func52 rfl (by rw [Try.ntmps52]; simp) 0 (by simp) ?_; rw [Try.results52, Try.ntmps52]; simp only [entry, zipArgs, Nat.reduceAdd])
  apply Wp.len 0; (simp only [push_cast, seval] <;> (try simp (disch := omega) only [wI, wU, wC]) <;> exact rfl)
  intro hlen
  simp only [List.length_map] at hlen
  repeat (first | apply Wp.seq | apply Wp.block | (apply Run.next; (simp only [push_cast, seval] <;> (try simp (disch := omega) only [wI, wU, wC]) <;> exact rfl); (focus ((try simp only [push_cast, seval]) <;> exact sT))) | ((first | apply Run.nil | apply Wp.skip); dsimp only [sQ, tQ, bQ]) | (apply Wp.run; (dsimp only [List.map] <;> exact rfl); exact rfl) | (apply Wp.exit; dsimp only [sQ, tQ, bQ]; simp only [reduceIte]))
  (apply Run.pureP; (simp only [push_cast, seval] <;> (try simp (disch := omega) only [wI, wU, wC]) <;> exact rfl); (exact (Enters.of Try.func24 rfl rfl)); (exact within_pure _ _ _); (focus (simp only [push_cast, seval] <;> first | trivial | assumption | (refine ⟨?_, ?_⟩ <;> assumption) | (simp; done))); (try dsimp only [putA, optG]))
  repeat (first | apply Wp.seq | apply Wp.block | (apply Run.next; (simp only [push_cast, seval] <;> (try simp (disch := omega) only [wI, wU, wC]) <;> exact rfl); (focus ((try simp only [push_cast, seval]) <;> exact sT))) | ((first | apply Run.nil | apply Wp.skip); dsimp only [sQ, tQ, bQ]) | (apply Wp.run; (dsimp only [List.map] <;> exact rfl); exact rfl) | (apply Wp.exit; dsimp only [sQ, tQ, bQ]; simp only [reduceIte]))
  (apply Run.pureP; (simp only [push_cast, seval] <;> (try simp (disch := omega) only [wI, wU, wC]) <;> exact rfl); (exact (Enters.of Try.func34 rfl rfl)); (exact containsFunc_pure ws 67 [] _ (Enters.of Try.func67 rfl rfl) trivial (fun _ => ⟨rfl, rfl⟩) (fun x _ => weighed1_pure x) hlen); (focus (simp only [push_cast, seval] <;> first | trivial | assumption | (refine ⟨?_, ?_⟩ <;> assumption) | (simp; done))); (try dsimp only [putA, optG]))
  repeat (first | apply Wp.seq | apply Wp.block | (apply Run.next; (simp only [push_cast, seval] <;> (try simp (disch := omega) only [wI, wU, wC]) <;> exact rfl); (focus ((try simp only [push_cast, seval]) <;> exact sT))) | ((first | apply Run.nil | apply Wp.skip); dsimp only [sQ, tQ, bQ]) | (apply Wp.run; (dsimp only [List.map] <;> exact rfl); exact rfl) | (apply Wp.exit; dsimp only [sQ, tQ, bQ]; simp only [reduceIte]))
  (apply Wp.ret; (try dsimp only [sQ, tQ, bQ]); apply leave0; exact rfl; (simp only [push_cast, seval] <;> (try simp (disch := omega) only [wI, wU, wC]) <;> exact rfl); all_goals (try simp only [push_cast, seval]); (try rfl))
  unfold weighedB
  rw [any_not]
  simp

theorem weighings_spec (ws : List Int) (load : Int) : Go.Vg.Spec Try.prog 53 [.ints ws, .int load] [] fun x m' => x = .clo 68 [.optr 0 0 0 0, .optr 1 0 0 0] ∧ m' = [⟨0, .row 1 [.ints ws]⟩, ⟨0, .row 1 [.int load]⟩] := by
  (refine Spec.of_body Try.func53 rfl (by rw [Try.ntmps53]; simp) 2 (by simp) ?_; rw [Try.results53, Try.ntmps53]; simp only [entry, zipArgs, Nat.reduceAdd])
  repeat (first | apply Wp.seq | apply Wp.block | (apply Run.next; (simp only [push_cast, seval] <;> (try simp (disch := omega) only [wI, wU, wC]) <;> exact rfl); (focus ((try simp only [push_cast, seval]) <;> exact sT))) | ((first | apply Run.nil | apply Wp.skip); dsimp only [sQ, tQ, bQ]) | (apply Wp.run; (dsimp only [List.map] <;> exact rfl); exact rfl) | (apply Wp.exit; dsimp only [sQ, tQ, bQ]; simp only [reduceIte]))
  (apply Wp.ret; (try dsimp only [sQ, tQ, bQ]); apply leaveK; exact rfl; (simp only [push_cast, seval] <;> (try simp (disch := omega) only [wI, wU, wC]) <;> exact rfl); (focus (first | (simp only [push_cast, seval]; done) | trivial | (simp only [push_cast, seval]; trivial) | (simp; done))); (focus (first | (simp only [push_cast, seval]; done) | trivial | (simp only [push_cast, seval]; trivial) | (simp; done))); (focus (first | (simp only [push_cast, seval]; done) | trivial | (simp only [push_cast, seval]; trivial) | (simp; done))); (try simp only [push_cast, seval]))

def sv : Option (List Int) → AV
  | none => .emp
  | some l => .ints l
theorem sv_ok (k : Nat) (o : Option (List Int)) : (sv o).ok k = True := by cases o <;> simp [sv, AV.ok, okL_int]
/-- what Weigh does with a weighing -/
def goW (s : Option (List Int) × Int) (sides : List Int) (used : Int) : Option (List Int) × Int := if s.2 < 0 ∨ used < s.2 then (some sides, used) else s
def bestW (ws : List Int) (load : Int) : Option (List Int) × Int := (wgh goW ws 0 (0 - load) 0 (List.replicate ws.length 0) (none, -1)).1
def weighV (ws : List Int) (load : Int) : AV × Int :=
  if weighedB ws load then (if (bestW ws load).2 < 0 then (.emp, 3) else (sv (bestW ws load).1, 0)) else (.emp, 1)

def Kw (ws : List Int) (load : Int) (L : Kind) (s : Option (List Int) × Int) : Mem := [⟨0, .row 1 [sv s.1]⟩, ⟨0, .row 1 [.int s.2]⟩, ⟨0, .row 1 [.ints ws]⟩, ⟨0, .row 1 [.int load]⟩, ⟨0, .dfr⟩, ⟨0, L⟩]

theorem weigh_pure (ws : List Int) (load : Int) : Pure Try.prog 30 [.ints ws, .int load] (.tup [(weighV ws load).1, .int (weighV ws load).2]) := by
  (refine Spec.of_body Try.func30 rfl (by rw [Try.ntmps30]; simp) 0 (by simp) ?_; rw [Try.results30, Try.ntmps30]; simp only [entry, zipArgs, Nat.reduceAdd])
  repeat (first | apply Wp.seq | apply Wp.block | (apply Run.next; (simp only [push_cast, seval] <;> (try simp (disch := omega) only [wI, wU, wC]) <;> exact rfl); (focus ((try simp only [push_cast, seval]) <;> exact sT))) | ((first | apply Run.nil | apply Wp.skip); dsimp only [sQ, tQ, bQ]) | (apply Wp.run; (dsimp only [List.map] <;> exact rfl); exact rfl) | (apply Wp.exit; dsimp only [sQ, tQ, bQ]; simp only [reduceIte]))
  (apply Run.pureP; (simp only [push_cast, seval] <;> (try simp (disch := omega) only [wI, wU, wC]) <;> exact rfl); (exact (Enters.of Try.func52 rfl rfl)); (exact weighed_pure _ _); (focus (simp only [push_cast, seval] <;> first | trivial | assumption | (refine ⟨?_, ?_⟩ <;> assumption) | (simp; done))); (try dsimp only [putA, optG]))
  repeat (first | apply Wp.seq | apply Wp.block | (apply Run.next; (simp only [push_cast, seval] <;> (try simp (disch := omega) only [wI, wU, wC]) <;> exact rfl); (focus ((try simp only [push_cast, seval]) <;> exact sT))) | ((first | apply Run.nil | apply Wp.skip); dsimp only [sQ, tQ, bQ]) | (apply Wp.run; (dsimp only [List.map] <;> exact rfl); exact rfl) | (apply Wp.exit; dsimp only [sQ, tQ, bQ]; simp only [reduceIte]))
  (apply Wp.cond; (simp only [push_cast, seval] <;> (try simp (disch := omega) only [wI, wU, wC]) <;> exact rfl))
  · intro hc
    repeat (first | apply Wp.seq | apply Wp.block | (apply Run.next; (simp only [push_cast, seval] <;> (try simp (disch := omega) only [wI, wU, wC]) <;> exact rfl); (focus ((try simp only [push_cast, seval]) <;> exact sT))) | ((first | apply Run.nil | apply Wp.skip); dsimp only [sQ, tQ, bQ]) | (apply Wp.run; (dsimp only [List.map] <;> exact rfl); exact rfl) | (apply Wp.exit; dsimp only [sQ, tQ, bQ]; simp only [reduceIte]))
    (apply Wp.ret; (try dsimp only [sQ, tQ, bQ]); apply leave0; exact rfl; (simp only [push_cast, seval] <;> (try simp (disch := omega) only [wI, wU, wC]) <;> exact rfl); all_goals (try simp only [push_cast, seval]); (try rfl))
    simp only [Bool.not_eq_true'] at hc
    simp [weighV, hc]
  · intro hc
    simp only [Bool.not_eq_false'] at hc
    have hwd := hc
    have hw := hc
    simp only [weighedB, Bool.and_eq_true, decide_eq_true_eq, List.all_eq_true] at hw
    obtain ⟨⟨hw1, hw2⟩, hw3⟩ := hw
    have hb : bnd 10000 ws := fun x hx => by have := hw3 x hx; omega
    repeat (first | apply Wp.seq | apply Wp.block | (apply Run.next; (simp only [push_cast, seval] <;> (try simp (disch := omega) only [wI, wU, wC]) <;> exact rfl); (focus ((try simp only [push_cast, seval]) <;> exact sT))) | ((first | apply Run.nil | apply Wp.skip); dsimp only [sQ, tQ, bQ]) | (apply Wp.run; (dsimp only [List.map] <;> exact rfl); exact rfl) | (apply Wp.exit; dsimp only [sQ, tQ, bQ]; simp only [reduceIte]))
    (apply Run.freshE (he := (Enters.of Try.func53 rfl rfl)); (simp only [push_cast, seval] <;> first | exact rfl | assumption); (simp only [push_cast, seval] <;> (try simp (disch := omega) only [wI, wU, wC]) <;> exact rfl); (exact weighings_spec _ _); (focus (first | (simp only [push_cast, seval]; done) | trivial | (simp only [push_cast, seval]; trivial) | (simp; done))); (simp only [push_cast, seval] <;> (try simp (disch := omega) only [wI, wU, wC]) <;> exact rfl); (simp only [push_cast, seval] <;> (try simp (disch := omega) only [wI, wU, wC]) <;> exact rfl); dsimp only [S.put, optG])
    repeat (first | apply Wp.seq | apply Wp.block | (apply Run.next; (simp only [push_cast, seval] <;> (try simp (disch := omega) only [wI, wU, wC]) <;> exact rfl); (focus ((try simp only [push_cast, seval]) <;> exact sT))) | ((first | apply Run.nil | apply Wp.skip); dsimp only [sQ, tQ, bQ]) | (apply Wp.run; (dsimp only [List.map] <;> exact rfl); exact rfl) | (apply Wp.exit; dsimp only [sQ, tQ, bQ]; simp only [reduceIte]))
    refine Wp.range (by (simp only [push_cast, seval] <;> (try simp (disch := omega) only [wI, wU, wC]) <;> exact rfl)) (Enters.of Try.func68 rfl rfl) (N := 4) rfl (C := fun j M => j = none ∧ ∃ s, s = bestW ws load ∧ M = [⟨0, .row 1 [sv s.1]⟩, ⟨0, .row 1 [.int s.2]⟩, ⟨0, .row 1 [.ints ws]⟩, ⟨0, .row 1 [.int load]⟩]) ?_ ?_
    · refine Go.Vg.Spec.mono (weigh97 (Kw ws load _) 6 5 2 (fun s => rfl) (by omega) ws (fun s => rfl) ?_ (by omega) goW ?_ hb (by omega) 3 load (fun s => rfl) (by omega) (none, -1)) ?_
      · intro s k hk
        unfold Kw
        simp only [sv_ok, push_cast]
        omega
      · intro s sides used hsl
        refine YSpec.of_body (id := 5) (ver := 0) rfl rfl (by simp) ?_
        intro L
        obtain ⟨o, b⟩ := s
        unfold Kw wtail
        dsimp only [bindP, List.cons_append, List.nil_append]
        repeat (first | apply Wp.seq | apply Wp.block | (apply Run.next; (simp only [push_cast, seval] <;> (try simp (disch := omega) only [wI, wU, wC]) <;> exact rfl); (focus ((try simp only [push_cast, seval]) <;> exact sT))) | ((first | apply Run.nil | apply Wp.skip); dsimp only [sQ, tQ, bQ]) | (apply Wp.run; (dsimp only [List.map] <;> exact rfl); exact rfl) | (apply Wp.exit; dsimp only [sQ, tQ, bQ]; simp only [reduceIte]))
        refine ⟨rfl, rfl, ?_⟩
        dsimp only [List.set]
        have htk : sides.take ws.length = sides := by rw [← hsl]; simp
        cases o with
        | none =>
          repeat (first | apply Wp.seq | apply Wp.block | (apply Run.next; (simp only [push_cast, seval, hsl, htk, sv] <;> (try simp (disch := omega) only [wI, wU, wC]) <;> exact rfl); (focus ((try simp only [push_cast, seval, hsl, htk, sv]) <;> exact sT))) | ((first | apply Run.nil | apply Wp.skip); dsimp only [sQ, tQ, bQ]) | (apply Wp.run; (dsimp only [List.map] <;> exact rfl); exact rfl) | (apply Wp.exit; dsimp only [sQ, tQ, bQ]; simp only [reduceIte]))
          (apply Wp.cond; (simp only [push_cast, seval, hsl, htk, sv] <;> (try simp (disch := omega) only [wI, wU, wC]) <;> exact rfl))
          · intro h2
            repeat (first | apply Wp.seq | apply Wp.block | (apply Run.next; (simp only [push_cast, seval, hsl, htk, sv] <;> (try simp (disch := omega) only [wI, wU, wC]) <;> exact rfl); (focus ((try simp only [push_cast, seval, hsl, htk, sv]) <;> exact sT))) | ((first | apply Run.nil | apply Wp.skip); dsimp only [sQ, tQ, bQ]) | (apply Wp.run; (dsimp only [List.map] <;> exact rfl); exact rfl) | (apply Wp.exit; dsimp only [sQ, tQ, bQ]; simp only [reduceIte]))
            (apply Run.freshV (he := (Enters.of Try.func26 rfl rfl)); (simp only [push_cast, seval, hsl, htk, sv] <;> first | exact rfl | assumption); (simp only [push_cast, seval, hsl, htk, sv] <;> (try simp (disch := omega) only [wI, wU, wC]) <;> exact rfl); (exact clone_spec sides (by omega)); (focus (first | (simp only [push_cast, seval, hsl, htk, sv]; done) | trivial | (simp only [push_cast, seval, hsl, htk, sv]; trivial) | (simp; done) | (intro x hx; simp only [List.mem_cons, List.not_mem_nil, or_false] at hx; rcases hx with rfl | rfl <;> first | exact .inl trivial | exact .inr ⟨_, _, _, _, rfl⟩))); (focus (first | (simp only [push_cast, seval, hsl, htk, sv]; done) | trivial | (simp only [push_cast, seval, hsl, htk, sv]; trivial) | (simp; done) | (intro x hx; simp only [List.mem_cons, List.not_mem_nil, or_false] at hx; rcases hx with rfl | rfl <;> first | exact .inl trivial | exact .inr ⟨_, _, _, _, rfl⟩))); (focus (first | (simp only [push_cast, seval, hsl, htk, sv]; done) | trivial | (simp only [push_cast, seval, hsl, htk, sv]; trivial) | (simp; done) | (intro x hx; simp only [List.mem_cons, List.not_mem_nil, or_false] at hx; rcases hx with rfl | rfl <;> first | exact .inl trivial | exact .inr ⟨_, _, _, _, rfl⟩))); (dsimp only [S.put, optG]; try dsimp only [AV.shift, List.length_nil, List.length_cons, List.nil_append, List.cons_append, Nat.zero_add, Nat.add_zero, Nat.reduceAdd]))
            (apply Run.freeze 26; (simp only [push_cast, seval, hsl, htk, sv] <;> (try simp (disch := omega) only [wI, wU, wC]) <;> exact rfl); (simp only [push_cast, seval, hsl, htk, sv] <;> (try simp (disch := omega) only [wI, wU, wC]) <;> exact rfl); (focus (try simp only [push_cast, seval, hsl, htk, sv]); (try (exact sT))); (focus (exact sT)); (simp only [push_cast, seval, hsl, htk, sv] <;> (try simp (disch := omega) only [wI, wU, wC]) <;> exact rfl); (simp only [push_cast, seval, hsl, htk, sv] <;> (try simp (disch := omega) only [wI, wU, wC]) <;> exact rfl))
            repeat (first | apply Wp.seq | apply Wp.block | (apply Run.next; (simp only [push_cast, seval, hsl, htk, sv] <;> (try simp (disch := omega) only [wI, wU, wC]) <;> exact rfl); (focus ((try simp only [push_cast, seval, hsl, htk, sv]) <;> exact sT))) | ((first | apply Run.nil | apply Wp.skip); dsimp only [sQ, tQ, bQ]) | (apply Wp.run; (dsimp only [List.map] <;> exact rfl); exact rfl) | (apply Wp.exit; dsimp only [sQ, tQ, bQ]; simp only [reduceIte]))
            refine ⟨rfl, ?_, rfl, ?_⟩
            · simp only [push_cast, seval, hsl, htk, sv]
            · simp only [Bool.or_eq_true, decide_eq_true_eq] at h2
              unfold goW
              rw [if_pos h2]; rfl
          · intro h2
            repeat (first | apply Wp.seq | apply Wp.block | (apply Run.next; (simp only [push_cast, seval, hsl, htk, sv] <;> (try simp (disch := omega) only [wI, wU, wC]) <;> exact rfl); (focus ((try simp only [push_cast, seval, hsl, htk, sv]) <;> exact sT))) | ((first | apply Run.nil | apply Wp.skip); dsimp only [sQ, tQ, bQ]) | (apply Wp.run; (dsimp only [List.map] <;> exact rfl); exact rfl) | (apply Wp.exit; dsimp only [sQ, tQ, bQ]; simp only [reduceIte]))
            refine ⟨rfl, ?_, rfl, ?_⟩
            · simp only [push_cast, seval, hsl, htk, sv]
            · simp only [Bool.or_eq_false_iff, decide_eq_false_iff_not] at h2
              unfold goW
              rw [if_neg (by simp only; omega)]; rfl
        | some l =>
          repeat (first | apply Wp.seq | apply Wp.block | (apply Run.next; (simp only [push_cast, seval, hsl, htk, sv] <;> (try simp (disch := omega) only [wI, wU, wC]) <;> exact rfl); (focus ((try simp only [push_cast, seval, hsl, htk, sv]) <;> exact sT))) | ((first | apply Run.nil | apply Wp.skip); dsimp only [sQ, tQ, bQ]) | (apply Wp.run; (dsimp only [List.map] <;> exact rfl); exact rfl) | (apply Wp.exit; dsimp only [sQ, tQ, bQ]; simp only [reduceIte]))
          (apply Wp.cond; (simp only [push_cast, seval, hsl, htk, sv] <;> (try simp (disch := omega) only [wI, wU, wC]) <;> exact rfl))
          · intro h2
            repeat (first | apply Wp.seq | apply Wp.block | (apply Run.next; (simp only [push_cast, seval, hsl, htk, sv] <;> (try simp (disch := omega) only [wI, wU, wC]) <;> exact rfl); (focus ((try simp only [push_cast, seval, hsl, htk, sv]) <;> exact sT))) | ((first | apply Run.nil | apply Wp.skip); dsimp only [sQ, tQ, bQ]) | (apply Wp.run; (dsimp only [List.map] <;> exact rfl); exact rfl) | (apply Wp.exit; dsimp only [sQ, tQ, bQ]; simp only [reduceIte]))
            (apply Run.freshV (he := (Enters.of Try.func26 rfl rfl)); (simp only [push_cast, seval, hsl, htk, sv] <;> first | exact rfl | assumption); (simp only [push_cast, seval, hsl, htk, sv] <;> (try simp (disch := omega) only [wI, wU, wC]) <;> exact rfl); (exact clone_spec sides (by omega)); (focus (first | (simp only [push_cast, seval, hsl, htk, sv]; done) | trivial | (simp only [push_cast, seval, hsl, htk, sv]; trivial) | (simp; done) | (intro x hx; simp only [List.mem_cons, List.not_mem_nil, or_false] at hx; rcases hx with rfl | rfl <;> first | exact .inl trivial | exact .inr ⟨_, _, _, _, rfl⟩))); (focus (first | (simp only [push_cast, seval, hsl, htk, sv]; done) | trivial | (simp only [push_cast, seval, hsl, htk, sv]; trivial) | (simp; done) | (intro x hx; simp only [List.mem_cons, List.not_mem_nil, or_false] at hx; rcases hx with rfl | rfl <;> first | exact .inl trivial | exact .inr ⟨_, _, _, _, rfl⟩))); (focus (first | (simp only [push_cast, seval, hsl, htk, sv]; done) | trivial | (simp only [push_cast, seval, hsl, htk, sv]; trivial) | (simp; done) | (intro x hx; simp only [List.mem_cons, List.not_mem_nil, or_false] at hx; rcases hx with rfl | rfl <;> first | exact .inl trivial | exact .inr ⟨_, _, _, _, rfl⟩))); (dsimp only [S.put, optG]; try dsimp only [AV.shift, List.length_nil, List.length_cons, List.nil_append, List.cons_append, Nat.zero_add, Nat.add_zero, Nat.reduceAdd]))
            (apply Run.freeze 26; (simp only [push_cast, seval, hsl, htk, sv] <;> (try simp (disch := omega) only [wI, wU, wC]) <;> exact rfl); (simp only [push_cast, seval, hsl, htk, sv] <;> (try simp (disch := omega) only [wI, wU, wC]) <;> exact rfl); (focus (try simp only [push_cast, seval, hsl, htk, sv]); (try (exact sT))); (focus (exact sT)); (simp only [push_cast, seval, hsl, htk, sv] <;> (try simp (disch := omega) only [wI, wU, wC]) <;> exact rfl); (simp only [push_cast, seval, hsl, htk, sv] <;> (try simp (disch := omega) only [wI, wU, wC]) <;> exact rfl))
            repeat (first | apply Wp.seq | apply Wp.block | (apply Run.next; (simp only [push_cast, seval, hsl, htk, sv] <;> (try simp (disch := omega) only [wI, wU, wC]) <;> exact rfl); (focus ((try simp only [push_cast, seval, hsl, htk, sv]) <;> exact sT))) | ((first | apply Run.nil | apply Wp.skip); dsimp only [sQ, tQ, bQ]) | (apply Wp.run; (dsimp only [List.map] <;> exact rfl); exact rfl) | (apply Wp.exit; dsimp only [sQ, tQ, bQ]; simp only [reduceIte]))
            refine ⟨rfl, ?_, rfl, ?_⟩
            · simp only [push_cast, seval, hsl, htk, sv]
            · simp only [Bool.or_eq_true, decide_eq_true_eq] at h2
              unfold goW
              rw [if_pos h2]; rfl
          · intro h2
            repeat (first | apply Wp.seq | apply Wp.block | (apply Run.next; (simp only [push_cast, seval, hsl, htk, sv] <;> (try simp (disch := omega) only [wI, wU, wC]) <;> exact rfl); (focus ((try simp only [push_cast, seval, hsl, htk, sv]) <;> exact sT))) | ((first | apply Run.nil | apply Wp.skip); dsimp only [sQ, tQ, bQ]) | (apply Wp.run; (dsimp only [List.map] <;> exact rfl); exact rfl) | (apply Wp.exit; dsimp only [sQ, tQ, bQ]; simp only [reduceIte]))
            refine ⟨rfl, ?_, rfl, ?_⟩
            · simp only [push_cast, seval, hsl, htk, sv]
            · simp only [Bool.or_eq_false_iff, decide_eq_false_iff_not] at h2
              unfold goW
              rw [if_neg (by simp only; omega)]; rfl
      · rintro x m' rfl
        exact ⟨_, none, ⟨rfl, _, rfl, rfl⟩, rfl, rfl⟩
    · rintro M j ⟨rfl, ⟨o, b⟩, hs, rfl⟩
      dsimp only [bQ, sQ, List.cons_append, List.nil_append]
      repeat (first | apply Wp.seq | apply Wp.block | (apply Run.next; (simp only [push_cast, seval, sv] <;> (try simp (disch := omega) only [wI, wU, wC]) <;> exact rfl); (focus ((try simp only [push_cast, seval, sv]) <;> exact sT))) | ((first | apply Run.nil | apply Wp.skip); dsimp only [sQ, tQ, bQ]) | (apply Wp.run; (dsimp only [List.map] <;> exact rfl); exact rfl) | (apply Wp.exit; dsimp only [sQ, tQ, bQ]; simp only [reduceIte]))
      (apply Wp.cond; (simp only [push_cast, seval, sv] <;> (try simp (disch := omega) only [wI, wU, wC]) <;> exact rfl))
      · (intro hc; try simp only [decide_eq_true_eq, decide_eq_false_iff_not, Bool.and_eq_true, Bool.or_eq_true, Bool.not_eq_true, Bool.not_eq_false, Bool.not_eq_true', Bool.not_eq_false', Bool.and_eq_false_iff, Bool.or_eq_false_iff, Int.not_lt, Int.not_le, Int.ofNat_lt, Int.ofNat_le] at hc)
        repeat (first | apply Wp.seq | apply Wp.block | (apply Run.next; (simp only [push_cast, seval, sv] <;> (try simp (disch := omega) only [wI, wU, wC]) <;> exact rfl); (focus ((try simp only [push_cast, seval, sv]) <;> exact sT))) | ((first | apply Run.nil | apply Wp.skip); dsimp only [sQ, tQ, bQ]) | (apply Wp.run; (dsimp only [List.map] <;> exact rfl); exact rfl) | (apply Wp.exit; dsimp only [sQ, tQ, bQ]; simp only [reduceIte]))
        (apply Wp.ret; (try dsimp only [sQ, tQ, bQ]); apply leaveM; (focus (first | (simp only [push_cast, seval, sv]; done) | trivial | (simp only [push_cast, seval, sv]; trivial) | (simp; done))); (focus (first | (simp only [push_cast, seval, sv]; done) | trivial | (simp only [push_cast, seval, sv]; trivial) | (simp; done))); (simp only [push_cast, seval, sv] <;> (try simp (disch := omega) only [wI, wU, wC]) <;> exact rfl); (focus (first | (simp only [push_cast, seval, sv]; done) | trivial | (simp only [push_cast, seval, sv]; trivial) | (simp; done))); (focus (first | (simp only [push_cast, seval, sv]; done) | trivial | (simp only [push_cast, seval, sv]; trivial) | (simp; done))); (focus (first | (simp only [push_cast, seval, sv]; done) | trivial | (simp only [push_cast, seval, sv]; trivial) | (simp; done))); (try simp only [push_cast, seval, sv]))
        simp [weighV, hwd, ← hs, hc]
      · (intro hc; try simp only [decide_eq_true_eq, decide_eq_false_iff_not, Bool.and_eq_true, Bool.or_eq_true, Bool.not_eq_true, Bool.not_eq_false, Bool.not_eq_true', Bool.not_eq_false', Bool.and_eq_false_iff, Bool.or_eq_false_iff, Int.not_lt, Int.not_le, Int.ofNat_lt, Int.ofNat_le] at hc)
        cases o with
        | none =>
          repeat (first | apply Wp.seq | apply Wp.block | (apply Run.next; (simp only [push_cast, seval, sv] <;> (try simp (disch := omega) only [wI, wU, wC]) <;> exact rfl); (focus ((try simp only [push_cast, seval, sv]) <;> exact sT))) | ((first | apply Run.nil | apply Wp.skip); dsimp only [sQ, tQ, bQ]) | (apply Wp.run; (dsimp only [List.map] <;> exact rfl); exact rfl) | (apply Wp.exit; dsimp only [sQ, tQ, bQ]; simp only [reduceIte]))
          (apply Wp.ret; (try dsimp only [sQ, tQ, bQ]); apply leaveM; (focus (first | (simp only [push_cast, seval, sv]; done) | trivial | (simp only [push_cast, seval, sv]; trivial) | (simp; done))); (focus (first | (simp only [push_cast, seval, sv]; done) | trivial | (simp only [push_cast, seval, sv]; trivial) | (simp; done))); (simp only [push_cast, seval, sv] <;> (try simp (disch := omega) only [wI, wU, wC]) <;> exact rfl); (focus (first | (simp only [push_cast, seval, sv]; done) | trivial | (simp only [push_cast, seval, sv]; trivial) | (simp; done))); (focus (first | (simp only [push_cast, seval, sv]; done) | trivial | (simp only [push_cast, seval, sv]; trivial) | (simp; done))); (focus (first | (simp only [push_cast, seval, sv]; done) | trivial | (simp only [push_cast, seval, sv]; trivial) | (simp; done))); (try simp only [push_cast, seval, sv]))
          simp only [weighV, hwd, ← hs, sv, if_true, if_neg (by omega : ¬ b < 0)]
        | some l =>
          repeat (first | apply Wp.seq | apply Wp.block | (apply Run.next; (simp only [push_cast, seval, sv] <;> (try simp (disch := omega) only [wI, wU, wC]) <;> exact rfl); (focus ((try simp only [push_cast, seval, sv]) <;> exact sT))) | ((first | apply Run.nil | apply Wp.skip); dsimp only [sQ, tQ, bQ]) | (apply Wp.run; (dsimp only [List.map] <;> exact rfl); exact rfl) | (apply Wp.exit; dsimp only [sQ, tQ, bQ]; simp only [reduceIte]))
          (apply Wp.ret; (try dsimp only [sQ, tQ, bQ]); apply leaveM; (focus (first | (simp only [push_cast, seval, sv]; done) | trivial | (simp only [push_cast, seval, sv]; trivial) | (simp; done))); (focus (first | (simp only [push_cast, seval, sv]; done) | trivial | (simp only [push_cast, seval, sv]; trivial) | (simp; done))); (simp only [push_cast, seval, sv] <;> (try simp (disch := omega) only [wI, wU, wC]) <;> exact rfl); (focus (first | (simp only [push_cast, seval, sv]; done) | trivial | (simp only [push_cast, seval, sv]; trivial) | (simp; done))); (focus (first | (simp only [push_cast, seval, sv]; done) | trivial | (simp only [push_cast, seval, sv]; trivial) | (simp; done))); (focus (first | (simp only [push_cast, seval, sv]; done) | trivial | (simp only [push_cast, seval, sv]; trivial) | (simp; done))); (try simp only [push_cast, seval, sv]))
          simp only [weighV, hwd, ← hs, sv, if_true, if_neg (by omega : ¬ b < 0)]
end Go.Proofs.Try
namespace Go.Proofs.Try
open Go.Vg

theorem works_shift : shiftV ⟨#[107, 101, 121, 32, 116, 111, 32, 114, 101, 100]⟩ 3 = (⟨#[110, 104, 98, 32, 119, 114, 32, 117, 104, 103]⟩, 0) := by decide
theorem works_weigh : bestW [1, 3, 9] 5 = (some [-1, -1, 1], 3) := by decide
theorem works_next : nextV [1, 4, 9, 16] = (25, 2, 0) := by decide

theorem works_c1 : Pure Try.prog 29 [.str ⟨#[107, 101, 121, 32, 116, 111, 32, 114, 101, 100]⟩, .int 3] (.tup [.str ⟨#[110, 104, 98, 32, 119, 114, 32, 117, 104, 103]⟩, .int 0]) := by
  have := shiftV_pure ⟨#[107, 101, 121, 32, 116, 111, 32, 114, 101, 100]⟩ 3
  rw [works_shift] at this; exact this
theorem works_c2 : Pure Try.prog 30 [.lst 1 [.int 1, .int 3, .int 9], .int 5] (.tup [.lst 1 [.int (-1), .int (-1), .int 1], .int 0]) := by
  have := weigh_pure [1, 3, 9] 5
  have e : weighV [1, 3, 9] 5 = (.ints [-1, -1, 1], 0) := by
    unfold weighV
    rw [if_pos (by decide), works_weigh]; rfl
  rw [e] at this; exact this
theorem works_c3 : Pure Try.prog 31 [.lst 1 [.int 1, .int 4, .int 9, .int 16]] (.tup [.int 25, .int 2, .int 0]) := by
  have := next_pure [1, 4, 9, 16]
  rw [works_next] at this; exact this
theorem works_c4 : Pure Try.prog 9 [.lst 1 [.int (-1), .int (-1), .int 1], .lst 1 [.int (-1), .int (-1), .int 1]] (.bool true) := by
  have := sameInts_pure [-1, -1, 1] [-1, -1, 1]
  exact this

theorem works_pure : Pure Try.prog 12 [] (.bool true) := by
  (refine Spec.of_body Try.func12 rfl (by rw [Try.ntmps12]; simp) 0 (by simp) ?_; rw [Try.results12, Try.ntmps12]; simp only [entry, zipArgs, Nat.reduceAdd])
  repeat (first | apply Wp.seq | apply Wp.block | (apply Run.next; (simp only [push_cast, seval] <;> (try simp (disch := omega) only [wI, wU, wC]) <;> exact rfl); (focus ((try simp only [push_cast, seval]) <;> exact sT))) | ((first | apply Run.nil | apply Wp.skip); dsimp only [sQ, tQ, bQ]) | (apply Wp.run; (dsimp only [List.map] <;> exact rfl); exact rfl) | (apply Wp.exit; dsimp only [sQ, tQ, bQ]; simp only [reduceIte]))
  (apply Run.pureP; (simp only [push_cast, seval] <;> (try simp (disch := omega) only [wI, wU, wC]) <;> exact rfl); (exact (Enters.of Try.func29 rfl rfl)); (exact works_c1); (focus (simp only [push_cast, seval] <;> first | trivial | assumption | (refine ⟨?_, ?_⟩ <;> assumption) | (simp; done))); (try dsimp only [putA, optG]))
  repeat (first | apply Wp.seq | apply Wp.block | (apply Run.next; (simp only [push_cast, seval] <;> (try simp (disch := omega) only [wI, wU, wC]) <;> exact rfl); (focus ((try simp only [push_cast, seval]) <;> exact sT))) | ((first | apply Run.nil | apply Wp.skip); dsimp only [sQ, tQ, bQ]) | (apply Wp.run; (dsimp only [List.map] <;> exact rfl); exact rfl) | (apply Wp.exit; dsimp only [sQ, tQ, bQ]; simp only [reduceIte]))
  (apply Run.pureFP; (simp only [push_cast, seval] <;> (try simp (disch := omega) only [wI, wU, wC]) <;> exact rfl); (exact (Enters.of Try.func30 rfl rfl)); (exact works_c2); (focus (simp only [push_cast, seval] <;> first | trivial | assumption | (refine ⟨?_, ?_⟩ <;> assumption) | (simp; done))); (try dsimp only [putA, optG]))
  repeat (first | apply Wp.seq | apply Wp.block | (apply Run.next; (simp only [push_cast, seval] <;> (try simp (disch := omega) only [wI, wU, wC]) <;> exact rfl); (focus ((try simp only [push_cast, seval]) <;> exact sT))) | ((first | apply Run.nil | apply Wp.skip); dsimp only [sQ, tQ, bQ]) | (apply Wp.run; (dsimp only [List.map] <;> exact rfl); exact rfl) | (apply Wp.exit; dsimp only [sQ, tQ, bQ]; simp only [reduceIte]))
  (apply Run.pureFP; (simp only [push_cast, seval] <;> (try simp (disch := omega) only [wI, wU, wC]) <;> exact rfl); (exact (Enters.of Try.func31 rfl rfl)); (exact works_c3); (focus (simp only [push_cast, seval] <;> first | trivial | assumption | (refine ⟨?_, ?_⟩ <;> assumption) | (simp; done))); (try dsimp only [putA, optG]))
  repeat (first | apply Wp.seq | apply Wp.block | (apply Run.next; (simp only [push_cast, seval] <;> (try simp (disch := omega) only [wI, wU, wC]) <;> exact rfl); (focus ((try simp only [push_cast, seval]) <;> exact sT))) | ((first | apply Run.nil | apply Wp.skip); dsimp only [sQ, tQ, bQ]) | (apply Wp.run; (dsimp only [List.map] <;> exact rfl); exact rfl) | (apply Wp.exit; dsimp only [sQ, tQ, bQ]; simp only [reduceIte]))
  (try (apply Run.gtrue; (simp only [push_cast, seval] <;> (try simp (disch := omega) only [wI, wU, wC]) <;> exact rfl); (simp only [push_cast, seval] <;> (try simp (disch := omega) only [wI, wU, wC]) <;> exact rfl)))
  repeat (first | apply Wp.seq | apply Wp.block | (apply Run.next; (simp only [push_cast, seval] <;> (try simp (disch := omega) only [wI, wU, wC]) <;> exact rfl); (focus ((try simp only [push_cast, seval]) <;> exact sT))) | ((first | apply Run.nil | apply Wp.skip); dsimp only [sQ, tQ, bQ]) | (apply Wp.run; (dsimp only [List.map] <;> exact rfl); exact rfl) | (apply Wp.exit; dsimp only [sQ, tQ, bQ]; simp only [reduceIte]))
  (try (apply Run.gtrue; (simp only [push_cast, seval] <;> (try simp (disch := omega) only [wI, wU, wC]) <;> exact rfl); (simp only [push_cast, seval] <;> (try simp (disch := omega) only [wI, wU, wC]) <;> exact rfl)))
  (apply Run.pureP; (simp only [push_cast, seval] <;> (try simp (disch := omega) only [wI, wU, wC]) <;> exact rfl); (exact (Enters.of Try.func9 rfl rfl)); (exact works_c4); (focus (simp only [push_cast, seval] <;> first | trivial | assumption | (refine ⟨?_, ?_⟩ <;> assumption) | (simp; done))); (try dsimp only [putA, optG]))
  repeat (first | apply Wp.seq | apply Wp.block | (apply Run.next; (simp only [push_cast, seval] <;> (try simp (disch := omega) only [wI, wU, wC]) <;> exact rfl); (focus ((try simp only [push_cast, seval]) <;> exact sT))) | ((first | apply Run.nil | apply Wp.skip); dsimp only [sQ, tQ, bQ]) | (apply Wp.run; (dsimp only [List.map] <;> exact rfl); exact rfl) | (apply Wp.exit; dsimp only [sQ, tQ, bQ]; simp only [reduceIte]))
  (apply Wp.ret; (try dsimp only [sQ, tQ, bQ]); apply leave0; exact rfl; (simp only [push_cast, seval] <;> (try simp (disch := omega) only [wI, wU, wC]) <;> exact rfl); all_goals (try simp only [push_cast, seval]); (try rfl))
end Go.Proofs.Try
set_option maxHeartbeats 4000000
namespace Go.Proofs.Try
open Go.Vg

/-! words, in order of their length, and of the first difference -/
def lx : List Nat → List Nat → Prop
  | x :: u, y :: v => x < y ∨ (x = y ∧ lx u v)
  | _, _ => False
theorem lx_irrefl : ∀ u, ¬ lx u u
  | [], h => h
  | x :: u, h => by
    rcases h with h | h
    · exact Nat.lt_irrefl _ h
    · exact lx_irrefl u h.2
theorem lx_trans : ∀ {u v w : List Nat}, lx u v → lx v w → lx u w
  | [], _, _, h, _ => h.elim
  | _ :: _, [], _, h, _ => h.elim
  | _ :: _, _ :: _, [], _, h => h.elim
  | x :: u, y :: v, z :: w, h, k => by
    rcases h with h | ⟨rfl, h⟩
    · rcases k with k | ⟨rfl, k⟩
      · exact .inl (by omega)
      · exact .inl h
    · rcases k with k | ⟨rfl, k⟩
      · exact .inl k
      · exact .inr ⟨rfl, lx_trans h k⟩
theorem lx_tri : ∀ {u v : List Nat}, u.length = v.length → lx u v ∨ u = v ∨ lx v u
  | [], [], _ => .inr (.inl rfl)
  | [], _ :: _, h => by simp at h
  | _ :: _, [], h => by simp at h
  | x :: u, y :: v, h => by
    rcases Nat.lt_trichotomy x y with k | rfl | k
    · exact .inl (.inl k)
    · rcases lx_tri (u := u) (v := v) (by simpa using h) with q | rfl | q
      · exact .inl (.inr ⟨rfl, q⟩)
      · exact .inr (.inl rfl)
      · exact .inr (.inr (.inr ⟨rfl, q⟩))
    · exact .inr (.inr (.inl k))
theorem lx_snoc : ∀ {u v : List Nat} {s t : Nat}, u.length = v.length → (lx (u ++ [s]) (v ++ [t]) ↔ lx u v ∨ (u = v ∧ s < t))
  | [], [], s, t, _ => by simp [lx]
  | [], _ :: _, _, _, h => by simp at h
  | _ :: _, [], _, _, h => by simp at h
  | x :: u, y :: v, s, t, h => by
    have ih := lx_snoc (u := u) (v := v) (s := s) (t := t) (by simpa using h)
    simp only [List.cons_append, lx, ih, List.cons.injEq]
    constructor
    · rintro (h | ⟨h, q | q⟩)
      · exact .inl (.inl h)
      · exact .inl (.inr ⟨h, q⟩)
      · exact .inr ⟨⟨h, q.1⟩, q.2⟩
    · rintro ((h | ⟨h, q⟩) | ⟨⟨h, q⟩, k⟩)
      · exact .inl h
      · exact .inr ⟨h, .inl q⟩
      · exact .inr ⟨h, .inr ⟨q, k⟩⟩
def sl (u v : List Nat) : Prop := u.length < v.length ∨ (u.length = v.length ∧ lx u v)
theorem sl_irrefl (u : List Nat) : ¬ sl u u := by
  rintro (h | h)
  · omega
  · exact lx_irrefl u h.2
theorem sl_trans {u v w : List Nat} (h : sl u v) (k : sl v w) : sl u w := by
  rcases h with h | ⟨h, h'⟩ <;> rcases k with k | ⟨k, k'⟩
  · exact .inl (by omega)
  · exact .inl (by omega)
  · exact .inl (by omega)
  · exact .inr ⟨by omega, lx_trans h' k'⟩
theorem sl_tri (u v : List Nat) : sl u v ∨ u = v ∨ sl v u := by
  rcases Nat.lt_trichotomy u.length v.length with h | h | h
  · exact .inl (.inl h)
  · rcases lx_tri h with q | q | q
    · exact .inl (.inr ⟨h, q⟩)
    · exact .inr (.inl q)
    · exact .inr (.inr (.inr ⟨h.symm, q⟩))
  · exact .inr (.inr (.inl h))
theorem sl_snoc {u v : List Nat} {s t : Nat} : sl (u ++ [s]) (v ++ [t]) ↔ sl u v ∨ (u = v ∧ s < t) := by
  unfold sl
  simp only [List.length_append, List.length_cons, List.length_nil]
  constructor
  · rintro (h | ⟨h, q⟩)
    · exact .inl (.inl (by omega))
    · rcases (lx_snoc (by omega)).1 q with k | k
      · exact .inl (.inr ⟨by omega, k⟩)
      · exact .inr k
  · rintro ((h | ⟨h, q⟩) | ⟨rfl, q⟩)
    · exact .inl (by omega)
    · exact .inr ⟨by omega, (lx_snoc h).2 (.inl q)⟩
    · exact .inr ⟨rfl, (lx_snoc rfl).2 (.inr ⟨rfl, q⟩)⟩
theorem snoc_cases {u : List Nat} (h : u ≠ []) : ∃ v t, u = v ++ [t] := ⟨u.dropLast, u.getLast h, (List.dropLast_concat_getLast h).symm⟩

/-! what is reached, in order -/
section
variable (R : Nat → Nat → Nat)
def endW : Nat → List Nat → Nat
  | c, [] => c
  | c, s :: w => endW (R c s) w
theorem endW_app : ∀ (u v : List Nat) (c : Nat), endW R c (u ++ v) = endW R (endW R c u) v
  | [], _, _ => rfl
  | s :: u, v, c => endW_app u v (R c s)
def okS (w : List Nat) : Prop := ∀ x ∈ w, x < 4
theorem okS_snoc {u : List Nat} {t : Nat} : okS (u ++ [t]) ↔ okS u ∧ t < 4 := by
  unfold okS
  constructor
  · intro h; exact ⟨fun x hx => h x (by simp [hx]), h t (by simp)⟩
  · rintro ⟨h, k⟩ x hx
    rcases List.mem_append.1 hx with hx | hx
    · exact h x hx
    · have : x = t := by simpa using hx
      subst this; exact k
/-- w is the first of the words that come from b to c -/
structure LW (b c : Nat) (w : List Nat) : Prop where
  ok : okS w
  to : endW R b w = c
  least : ∀ v, okS v → endW R b v = c → w = v ∨ sl w v
theorem LW.unique {b c : Nat} {w v : List Nat} (h : LW R b c w) (k : LW R b c v) : w = v := by
  rcases h.least v k.ok k.to with q | q
  · exact q
  · rcases k.least w h.ok h.to with r | r
    · exact r.symm
    · exact absurd (sl_trans q r) (sl_irrefl w)
abbrev QL := List (Nat × List Nat)
abbrev qc (Q : QL) (j : Nat) : Nat := (Q.getD j (0, [])).1
abbrev qw (Q : QL) (j : Nat) : List Nat := (Q.getD j (0, [])).2
structure BI (b : Nat) (Q : QL) (i s : Nat) : Prop where
  pos : 0 < Q.length
  hc : qc Q 0 = b
  hw : qw Q 0 = []
  lw : ∀ j, j < Q.length → LW R b (qc Q j) (qw Q j)
  srt : ∀ j k, j < k → k < Q.length → sl (qw Q j) (qw Q k)
  don : ∀ j t, j < Q.length → t < 4 → (j < i ∨ (j = i ∧ t < s)) → ∃ k, k < Q.length ∧ qc Q k = R (qc Q j) t
  com : ∀ k, 0 < k → k < Q.length → ∃ j t, j < k ∧ t < 4 ∧ (j < i ∨ (j = i ∧ t < s)) ∧ qw Q k = qw Q j ++ [t]
theorem BI.start (b : Nat) : BI R b [(b, [])] 0 0 := by
  refine ⟨by simp, rfl, rfl, fun j hj => ?_, fun j k h1 h2 => ?_, fun j t h1 h2 h3 => ?_, fun k h1 h2 => ?_⟩
  · have : j = 0 := by simpa using hj
    subst this
    refine ⟨fun x hx => (by cases hx), rfl, fun v hv hv2 => ?_⟩
    cases v with
    | nil => exact .inl rfl
    | cons x v => exact .inr (.inl (by simp [qw]))
  · simp at h2; omega
  · omega
  · simp at h2; omega
theorem BI.next {b i : Nat} {Q : QL} (h : BI R b Q i 4) : BI R b Q (i + 1) 0 :=
  ⟨h.pos, h.hc, h.hw, h.lw, h.srt, fun j t h1 h2 h3 => h.don j t h1 h2 (by omega), fun k h1 h2 => by
    obtain ⟨j, t, q1, q2, q3, q4⟩ := h.com k h1 h2
    exact ⟨j, t, q1, q2, by omega, q4⟩⟩
/-- what comes before the word that is looked at next has been seen -/
theorem BI.seen {b i s : Nat} {Q : QL} (h : BI R b Q i s) (hi : i < Q.length) : ∀ (n : Nat) (v : List Nat), v.length = n → okS v → sl v (qw Q i ++ [s]) → ∃ k, k < Q.length ∧ qc Q k = endW R b v
  | 0, v, hn, _, _ => by
    have : v = [] := List.eq_nil_of_length_eq_zero hn
    subst this
    exact ⟨0, h.pos, h.hc⟩
  | n + 1, v, hn, hv, hs => by
    obtain ⟨u, t, rfl⟩ := snoc_cases (u := v) (by intro e; subst e; simp at hn)
    obtain ⟨hu, ht⟩ := okS_snoc.1 hv
    have hun : u.length = n := by simpa using hn
    have hl : (u ++ [t]).length ≤ (qw Q i ++ [s]).length := by rcases hs with q | q <;> omega
    obtain ⟨j, hj, hjc⟩ := BI.seen h hi n u hun hu (.inl (by simp at hl ⊢; omega))
    have hlt : (j < i ∨ (j = i ∧ t < s)) := by
      have h1 : sl (qw Q j ++ [t]) (qw Q i ++ [s]) := by
        rcases (h.lw j hj).least u hu hjc.symm with q | q
        · rw [q]; exact hs
        · exact sl_trans (sl_snoc.2 (.inl q)) hs
      rcases sl_snoc.1 h1 with q | ⟨q, q'⟩
      · refine .inl ?_
        rcases Nat.lt_trichotomy j i with r | rfl | r
        · exact r
        · exact absurd q (sl_irrefl _)
        · exact absurd (sl_trans q (h.srt i j r hj)) (sl_irrefl _)
      · rcases Nat.lt_trichotomy j i with r | rfl | r
        · exact .inl r
        · exact .inr ⟨rfl, q'⟩
        · exact absurd (by have := h.srt i j r hj; rw [q] at this; exact this) (sl_irrefl (qw Q i))
    obtain ⟨k, hk, hkc⟩ := h.don j t hj ht hlt
    refine ⟨k, hk, ?_⟩
    rw [hkc, hjc, endW_app]; rfl
def knB (Q : QL) (c : Nat) : Bool := Q.any fun p => p.1 == c
theorem knB_iff {Q : QL} {c : Nat} : knB Q c = true ↔ ∃ k, k < Q.length ∧ qc Q k = c := by
  unfold knB
  rw [List.any_eq_true]
  constructor
  · rintro ⟨p, hp, h⟩
    obtain ⟨i, hi, rfl⟩ := List.getElem_of_mem hp
    exact ⟨i, hi, by simpa [qc, hi] using h⟩
  · rintro ⟨k, hk, h⟩
    exact ⟨Q[k], List.getElem_mem hk, by simpa [qc, hk] using h⟩
def bstep (Q : QL) (i s : Nat) : QL := if knB Q (R (qc Q i) s) = true then Q else Q ++ [(R (qc Q i) s, qw Q i ++ [s])]
theorem bstep_old (Q : QL) (i s j : Nat) (h : j < Q.length) : (bstep R Q i s).getD j (0, []) = Q.getD j (0, []) := by
  unfold bstep
  split
  · rfl
  · simp [List.getD_eq_getElem?_getD, List.getElem?_append_left h]
theorem bstep_len (Q : QL) (i s : Nat) : Q.length ≤ (bstep R Q i s).length ∧ (bstep R Q i s).length ≤ Q.length + 1 := by
  unfold bstep; split <;> simp
theorem BI.step {b i s : Nat} {Q : QL} (h : BI R b Q i s) (hi : i < Q.length) (hs : s < 4) : BI R b (bstep R Q i s) i (s + 1) := by
  by_cases hk : knB Q (R (qc Q i) s) = true
  · have e : bstep R Q i s = Q := if_pos hk
    rw [e]
    refine ⟨h.pos, h.hc, h.hw, h.lw, h.srt, fun j t h1 h2 h3 => ?_, fun k h1 h2 => ?_⟩
    · by_cases h4 : j < i ∨ (j = i ∧ t < s)
      · exact h.don j t h1 h2 h4
      · have e1 : j = i := by omega
        have e2 : t = s := by omega
        subst e1; subst e2
        exact knB_iff.1 hk
    · obtain ⟨j, t, q1, q2, q3, q4⟩ := h.com k h1 h2
      exact ⟨j, t, q1, q2, by omega, q4⟩
  · have e : bstep R Q i s = Q ++ [(R (qc Q i) s, qw Q i ++ [s])] := if_neg hk
    have old : ∀ j, j < Q.length → (bstep R Q i s).getD j (0, []) = Q.getD j (0, []) := bstep_old R Q i s
    have new : (bstep R Q i s).getD Q.length (0, []) = (R (qc Q i) s, qw Q i ++ [s]) := by rw [e]; simp
    have len : (bstep R Q i s).length = Q.length + 1 := by rw [e]; simp
    have hwi : LW R b (R (qc Q i) s) (qw Q i ++ [s]) := by
      have hl := h.lw i hi
      refine ⟨okS_snoc.2 ⟨hl.ok, hs⟩, by rw [endW_app, hl.to]; rfl, fun v hv hv2 => ?_⟩
      rcases sl_tri (qw Q i ++ [s]) v with q | q | q
      · exact .inr q
      · exact .inl q
      · obtain ⟨k, hk1, hk2⟩ := h.seen R hi v.length v rfl hv q
        exact absurd (knB_iff.2 ⟨k, hk1, hk2.trans hv2⟩) hk
    refine ⟨by rw [len]; omega, by rw [qc, old 0 h.pos]; exact h.hc, by rw [qw, old 0 h.pos]; exact h.hw, fun j hj => ?_, fun j k h1 h2 => ?_, fun j t h1 h2 h3 => ?_, fun k h1 h2 => ?_⟩
    · rw [len] at hj
      by_cases hj2 : j < Q.length
      · rw [qc, qw, old j hj2]; exact h.lw j hj2
      · have : j = Q.length := by omega
        subst this
        rw [qc, qw, new]; exact hwi
    · rw [len] at h2
      by_cases hk2 : k < Q.length
      · rw [qw, qw, old j (by omega), old k hk2]; exact h.srt j k h1 hk2
      · have : k = Q.length := by omega
        subst this
        rw [qw, qw, old j h1, new]
        by_cases hj0 : j = 0
        · subst hj0
          refine .inl ?_
          have := h.hw
          unfold qw at this
          rw [this]; simp
        · obtain ⟨j', t, q1, q2, q3, q4⟩ := h.com j (by omega) h1
          show sl (qw Q j) _
          rw [q4]
          refine sl_snoc.2 ?_
          rcases q3 with q3 | ⟨rfl, q3⟩
          · exact .inl (h.srt j' i q3 hi)
          · exact .inr ⟨rfl, q3⟩
    · have hj : j < Q.length := by
        rcases h3 with h3 | ⟨rfl, h3⟩
        · omega
        · exact hi
      rw [qc, old j hj]
      by_cases h4 : j < i ∨ (j = i ∧ t < s)
      · obtain ⟨k, q1, q2⟩ := h.don j t hj h2 h4
        exact ⟨k, by omega, by rw [qc, old k q1]; exact q2⟩
      · have e1 : j = i := by omega
        have e2 : t = s := by omega
        subst e1; subst e2
        exact ⟨Q.length, by omega, by rw [qc, new]⟩
    · rw [len] at h2
      by_cases hk2 : k < Q.length
      · obtain ⟨j, t, q1, q2, q3, q4⟩ := h.com k h1 hk2
        exact ⟨j, t, q1, q2, by omega, by rw [qw, qw, old k hk2, old j (by omega)]; exact q4⟩
      · have : k = Q.length := by omega
        subst this
        exact ⟨i, s, hi, hs, .inr ⟨rfl, by omega⟩, by rw [qw, qw, new, old i hi]⟩
/-- all is seen -/
theorem BI.all {b : Nat} {Q : QL} (h : BI R b Q Q.length 0) : ∀ (v : List Nat), okS v → ∃ k, k < Q.length ∧ qc Q k = endW R b v := by
  intro v hv
  have : ∀ (n : Nat) (v : List Nat), v.length = n → okS v → ∃ k, k < Q.length ∧ qc Q k = endW R b v := by
    intro n
    induction n with
    | zero =>
      intro v hn _
      have : v = [] := List.eq_nil_of_length_eq_zero hn
      subst this
      exact ⟨0, h.pos, h.hc⟩
    | succ n ih =>
      intro v hn hv
      obtain ⟨u, t, rfl⟩ := snoc_cases (u := v) (by intro e; subst e; simp at hn)
      obtain ⟨hu, ht⟩ := okS_snoc.1 hv
      obtain ⟨j, hj, hjc⟩ := ih u (by simpa using hn) hu
      obtain ⟨k, hk, hkc⟩ := h.don j t hj ht (.inl hj)
      exact ⟨k, hk, by rw [hkc, hjc, endW_app]; rfl⟩
  exact this v.length v rfl hv
/-- a word is no longer than its place -/
theorem BI.short {b i s : Nat} {Q : QL} (h : BI R b Q i s) : ∀ n k, k ≤ n → k < Q.length → (qw Q k).length ≤ k
  | 0, k, h1, h2 => by
    have : k = 0 := by omega
    subst this
    rw [h.hw]; simp
  | n + 1, k, h1, h2 => by
    by_cases hk : k = 0
    · subst hk; rw [h.hw]; simp
    · obtain ⟨j, t, q1, q2, q3, q4⟩ := h.com k (by omega) h2
      have := BI.short h n j (by omega) (by omega)
      rw [q4]; simp; omega
/-- the cells differ -/
theorem BI.apart {b i s : Nat} {Q : QL} (h : BI R b Q i s) {j k : Nat} (hj : j < Q.length) (hk : k < Q.length) (e : qc Q j = qc Q k) : j = k := by
  have h1 := h.lw j hj
  have h2 := h.lw k hk
  rw [e] at h1
  have h3 := LW.unique R h1 h2
  rcases Nat.lt_trichotomy j k with r | r | r
  · exact absurd (by rw [← h3]; exact sl_irrefl _) (fun h' : ¬ sl (qw Q j) (qw Q k) => h' (h.srt j k r hk))
  · exact r
  · exact absurd (by rw [← h3]; exact sl_irrefl _) (fun h' : ¬ sl (qw Q k) (qw Q j) => h' (h.srt k j r hj))
end
theorem nodup_ltM : ∀ (M : Nat) (l : List Nat), l.Nodup → (∀ x ∈ l, x < M) → l.length ≤ M
  | 0, l, _, h => by
    cases l with
    | nil => simp
    | cons a l => exact absurd (h a (by simp)) (by omega)
  | M + 1, l, hn, h => by
    have h1 := nodup_ltM M (l.erase M) (hn.erase M) (fun x hx => by
      rw [hn.mem_erase_iff] at hx
      have := h x hx.2; omega)
    rw [List.length_erase] at h1
    split at h1 <;> omega
end Go.Proofs.Try
set_option maxHeartbeats 4000000
namespace Go.Proofs.Try
open Go.Vg

section
variable (R : Nat → Nat → Nat)
/-! the search, as a function -/
def bcell (Q : QL) (i : Nat) : QL := bstep R (bstep R (bstep R (bstep R Q i 0) i 1) i 2) i 3
def brun : Nat → Nat → QL → QL
  | 0, _, Q => Q
  | f + 1, i, Q => if i < Q.length then brun f (i + 1) (bcell R Q i) else Q
theorem BI.cell {b i : Nat} {Q : QL} (h : BI R b Q i 0) (hi : i < Q.length) : BI R b (bcell R Q i) (i + 1) 0 := by
  have l1 := bstep_len R Q i 0
  have l2 := bstep_len R (bstep R Q i 0) i 1
  have l3 := bstep_len R (bstep R (bstep R Q i 0) i 1) i 2
  have h1 : BI R b (bstep R Q i 0) i 1 := h.step R hi (by omega)
  have h2 : BI R b (bstep R (bstep R Q i 0) i 1) i 2 := h1.step R (by omega) (by omega)
  have h3 : BI R b (bstep R (bstep R (bstep R Q i 0) i 1) i 2) i 3 := h2.step R (by omega) (by omega)
  have h4 : BI R b (bstep R (bstep R (bstep R (bstep R Q i 0) i 1) i 2) i 3) i 4 := h3.step R (by omega) (by omega)
  exact h4.next
/-- all cells are below n -/
def QB (n : Nat) (Q : QL) : Prop := ∀ p ∈ Q, p.1 < n
theorem qc_lt {n : Nat} {Q : QL} (h : QB n Q) {j : Nat} (hj : j < Q.length) : qc Q j < n := by
  have : Q.getD j (0, []) ∈ Q := by simp [hj]
  exact h _ this
theorem bstep_QB {n : Nat} (hR : ∀ c s, c < n → s < 4 → R c s < n) {Q : QL} (h : QB n Q) {i s : Nat} (hi : i < Q.length) (hs : s < 4) : QB n (bstep R Q i s) := by
  unfold bstep
  split
  · exact h
  · intro p hp
    rcases List.mem_append.1 hp with hp | hp
    · exact h p hp
    · have : p = (R (qc Q i) s, qw Q i ++ [s]) := by simpa using hp
      subst this
      exact hR _ _ (qc_lt h hi) hs
theorem bcell_QB {n : Nat} (hR : ∀ c s, c < n → s < 4 → R c s < n) {Q : QL} (h : QB n Q) {i : Nat} (hi : i < Q.length) : QB n (bcell R Q i) := by
  have l1 := bstep_len R Q i 0
  have l2 := bstep_len R (bstep R Q i 0) i 1
  have l3 := bstep_len R (bstep R (bstep R Q i 0) i 1) i 2
  exact bstep_QB R hR (bstep_QB R hR (bstep_QB R hR (bstep_QB R hR h hi (by omega)) (by omega) (by omega)) (by omega) (by omega)) (by omega) (by omega)
theorem BI.len {b i s n : Nat} {Q : QL} (h : BI R b Q i s) (hb : QB n Q) : Q.length ≤ n := by
  have hnd : ((List.range Q.length).map (qc Q)).Nodup := by
    unfold List.Nodup
    rw [List.pairwise_map]
    refine List.Pairwise.imp_of_mem ?_ (List.pairwise_lt_range (n := Q.length))
    intro j k hj hk hjk e
    have := h.apart R (List.mem_range.1 hj) (List.mem_range.1 hk) e
    omega
  have := nodup_ltM n _ hnd (fun x hx => by
    obtain ⟨j, hj, rfl⟩ := List.mem_map.1 hx
    exact qc_lt hb (List.mem_range.1 hj))
  simpa using this
theorem brun_is {b n : Nat} (hR : ∀ c s, c < n → s < 4 → R c s < n) : ∀ (f i : Nat) (Q : QL), BI R b Q i 0 → QB n Q → i ≤ Q.length → n < f + i → BI R b (brun R f i Q) (brun R f i Q).length 0 ∧ QB n (brun R f i Q)
  | 0, i, Q, h, hb, hi, hf => by have := h.len R hb; omega
  | f + 1, i, Q, h, hb, hi, hf => by
    unfold brun
    split
    · rename_i hlt
      have hc := h.cell R hlt
      have l1 := bstep_len R Q i 0
      have l2 := bstep_len R (bstep R Q i 0) i 1
      have l3 := bstep_len R (bstep R (bstep R Q i 0) i 1) i 2
      have l4 := bstep_len R (bstep R (bstep R (bstep R Q i 0) i 1) i 2) i 3
      exact brun_is hR f (i + 1) _ hc (bcell_QB R hR hb hlt) (by unfold bcell; omega) (by omega)
    · have : i = Q.length := by omega
      subst this
      exact ⟨h, hb⟩
theorem QB_one {n b : Nat} (h : b < n) : QB n [(b, [])] := by
  intro p hp
  have : p = (b, []) := by simpa using hp
  subst this; exact h
def bfs (n b : Nat) : QL := brun R (n + 1) 0 [(b, [])]
theorem bfs_is {b n : Nat} (hR : ∀ c s, c < n → s < 4 → R c s < n) (hb : b < n) : BI R b (bfs R n b) (bfs R n b).length 0 ∧ QB n (bfs R n b) :=
  brun_is R hR (n + 1) 0 _ (BI.start R b) (QB_one hb) (by simp) (by omega)
/-- a cell is reached by some word exactly if the search has it -/
theorem bfs_iff {b n c : Nat} (hR : ∀ c s, c < n → s < 4 → R c s < n) (hb : b < n) : knB (bfs R n b) c = true ↔ ∃ v, okS v ∧ endW R b v = c := by
  obtain ⟨h, hq⟩ := bfs_is R hR hb
  rw [knB_iff]
  constructor
  · rintro ⟨k, hk, rfl⟩
    exact ⟨_, (h.lw k hk).ok, (h.lw k hk).to⟩
  · rintro ⟨v, hv, rfl⟩
    exact h.all R v hv
theorem bfs_short {b n c : Nat} (hR : ∀ c s, c < n → s < 4 → R c s < n) (hb : b < n) (h : ∃ v, okS v ∧ endW R b v = c) : ∃ v, okS v ∧ endW R b v = c ∧ v.length < n := by
  obtain ⟨hi, hq⟩ := bfs_is R hR hb
  obtain ⟨k, hk, rfl⟩ := knB_iff.1 ((bfs_iff R hR hb).2 h)
  have h1 := hi.short R k k (Nat.le_refl _) hk
  have h2 := hi.len R hq
  exact ⟨_, (hi.lw k hk).ok, (hi.lw k hk).to, by omega⟩
/-- the way of a cell that is reached -/
def wayQ (Q : QL) (c : Nat) : Option (List Nat) := (Q.find? fun p => p.1 == c).map (·.2)
theorem wayQ_some {b i s c : Nat} {Q : QL} {w : List Nat} (h : BI R b Q i s) (hw : wayQ Q c = some w) : LW R b c w := by
  unfold wayQ at hw
  obtain ⟨p, hp, rfl⟩ := Option.map_eq_some_iff.1 hw
  have h1 := List.mem_of_find?_eq_some hp
  have h2 := List.find?_some hp
  obtain ⟨j, hj, rfl⟩ := List.getElem_of_mem h1
  have := h.lw j hj
  simp only [qc, qw, List.getD_eq_getElem?_getD, List.getElem?_eq_getElem hj, Option.getD_some] at this
  have e : Q[j].1 = c := by simpa using h2
  rw [e] at this
  exact this
theorem wayQ_none {c : Nat} {Q : QL} : wayQ Q c = none ↔ knB Q c = false := by
  unfold wayQ knB
  rw [Option.map_eq_none_iff, List.find?_eq_none, ← Bool.not_eq_true, List.any_eq_true]
  constructor
  · rintro h ⟨p, hp, h2⟩; exact h p hp h2
  · intro h p hp h2; exact h ⟨p, hp, h2⟩

/-! how far it is, as the document has it -/
variable (wl : Nat → Bool) (to : Nat)
def farF : Nat → Nat → Int
  | 0, c => if c = to then 0 else -1
  | s + 1, c => if (decide (farF s c < 0) && !wl c && (List.range 4).any fun t => farF s (R c t) == (s : Int)) = true then (s : Int) + 1 else farF s c
theorem far_keep {s c : Nat} (h : 0 ≤ farF R wl to s c) : farF R wl to (s + 1) c = farF R wl to s c := by
  rw [farF, if_neg]
  have : decide (farF R wl to s c < 0) = false := decide_eq_false (by omega)
  rw [this]; simp
theorem far_range : ∀ s c, -1 ≤ farF R wl to s c ∧ farF R wl to s c ≤ s
  | 0, c => by unfold farF; split <;> omega
  | s + 1, c => by
    have := far_range s c
    unfold farF
    split <;> omega
theorem far_word : ∀ s c, 0 ≤ farF R wl to s c → ∃ v, okS v ∧ endW R c v = to ∧ (v.length : Int) = farF R wl to s c
  | 0, c, h => by
    unfold farF at h ⊢
    split at h
    · rename_i e
      rw [if_pos e]
      exact ⟨[], fun x hx => (by cases hx), e, rfl⟩
    · omega
  | s + 1, c, h => by
    by_cases hc : (decide (farF R wl to s c < 0) && !wl c && (List.range 4).any fun t => farF R wl to s (R c t) == (s : Int)) = true
    · have e : farF R wl to (s + 1) c = (s : Int) + 1 := by rw [farF, if_pos hc]
      simp only [Bool.and_eq_true, List.any_eq_true] at hc
      obtain ⟨_, t, ht, h2⟩ := hc
      have h2 : farF R wl to s (R c t) = (s : Int) := by simpa using h2
      obtain ⟨v, h3, h4, h5⟩ := far_word s (R c t) (by omega)
      refine ⟨t :: v, ?_, h4, by simp only [List.length_cons]; omega⟩
      intro x hx
      rcases List.mem_cons.1 hx with rfl | hx
      · exact List.mem_range.1 ht
      · exact h3 x hx
    · have e : farF R wl to (s + 1) c = farF R wl to s c := by rw [farF, if_neg hc]
      rw [e] at h ⊢
      exact far_word s c h
theorem far_least (hw : ∀ c s, wl c = false → s < 4 → wl (R c s) = false) : ∀ s c v, wl c = false → okS v → endW R c v = to → v.length ≤ s → 0 ≤ farF R wl to s c ∧ farF R wl to s c ≤ v.length
  | 0, c, v, h1, h2, h3, h4 => by
    have : v = [] := List.eq_nil_of_length_eq_zero (by omega)
    subst this
    have h3 : c = to := h3
    unfold farF; rw [if_pos h3]; simp
  | s + 1, c, v, h1, h2, h3, h4 => by
    by_cases hk : 0 ≤ farF R wl to s c
    · rw [far_keep R wl to hk]
      refine ⟨hk, ?_⟩
      by_cases hv : v.length ≤ s
      · exact (far_least hw s c v h1 h2 h3 hv).2
      · have := (far_range R wl to s c).2; omega
    · by_cases hv : v.length ≤ s
      · exact absurd (far_least hw s c v h1 h2 h3 hv).1 hk
      · cases v with
        | nil => simp at hv
        | cons t v =>
          simp only [List.length_cons] at hv h4
          have ht : t < 4 := h2 t (by simp)
          have hv' : okS v := fun x hx => h2 x (by simp [hx])
          obtain ⟨q1, q2⟩ := far_least hw s (R c t) v (hw c t h1 ht) hv' h3 (by omega)
          have hs : farF R wl to s (R c t) = (s : Int) := by
            obtain ⟨u, k1, k2, k3⟩ := far_word R wl to s (R c t) q1
            rcases Int.lt_trichotomy (farF R wl to s (R c t)) (s : Int) with q | q | q
            · refine absurd ?_ hk
              refine (far_least hw s c (t :: u) h1 ?_ k2 (by simp only [List.length_cons]; omega)).1
              intro x hx
              rcases List.mem_cons.1 hx with rfl | hx
              · exact ht
              · exact k1 x hx
            · exact q
            · have := (far_range R wl to s (R c t)).2; omega
          have e : farF R wl to (s + 1) c = (s : Int) + 1 := by
            rw [farF, if_pos]
            simp only [Bool.and_eq_true, List.any_eq_true]
            exact ⟨⟨decide_eq_true (by omega), by rw [h1]; rfl⟩, t, List.mem_range.2 ht, by simpa using hs⟩
          rw [e]
          simp only [List.length_cons]
          omega
/-- the first shortest word, step by step -/
def ftS (D : Nat → Int) (k c : Nat) : Nat := ((List.range 4).find? fun t => D (R c t) == (k : Int)).getD 0
def grS (D : Nat → Int) : Nat → Nat → List Nat
  | 0, _ => []
  | k + 1, c => ftS R D k c :: grS D k (R c (ftS R D k c))
theorem ft_is {D : Nat → Int} {k c t : Nat} (ht : t < 4) (h : D (R c t) = (k : Int)) : ftS R D k c < 4 ∧ D (R c (ftS R D k c)) = (k : Int) ∧ ftS R D k c ≤ t := by
  have key : ∃ u, (List.range 4).find? (fun t => D (R c t) == (k : Int)) = some u ∧ u ≤ t := by
    by_cases h0 : D (R c 0) = (k : Int)
    · exact ⟨0, by simp [List.range_succ, h0], Nat.zero_le _⟩
    · by_cases h1 : D (R c 1) = (k : Int)
      · refine ⟨1, by simp [List.range_succ, h0, h1], ?_⟩
        rcases Nat.eq_zero_or_pos t with rfl | q
        · exact absurd h h0
        · omega
      · by_cases h2 : D (R c 2) = (k : Int)
        · refine ⟨2, by simp [List.range_succ, h0, h1, h2], ?_⟩
          have : t ≠ 0 := by rintro rfl; exact h0 h
          have : t ≠ 1 := by rintro rfl; exact h1 h
          omega
        · have e0 : t ≠ 0 := by rintro rfl; exact h0 h
          have e1 : t ≠ 1 := by rintro rfl; exact h1 h
          have e2 : t ≠ 2 := by rintro rfl; exact h2 h
          have e3 : t = 3 := by omega
          subst e3
          exact ⟨3, by simp [List.range_succ, h0, h1, h2, h], by omega⟩
  obtain ⟨u, hu, hut⟩ := key
  have h1 := List.mem_of_find?_eq_some hu
  have h2 := List.find?_some hu
  have e : ftS R D k c = u := by unfold ftS; rw [hu]; rfl
  rw [e]
  exact ⟨List.mem_range.1 h1, by simpa using h2, hut⟩
theorem gr_is {D : Nat → Int} {G : Nat → Prop} (hG : ∀ c t, G c → t < 4 → G (R c t))
    (hD1 : ∀ c, G c → 0 ≤ D c → ∃ v, okS v ∧ endW R c v = to ∧ (v.length : Int) = D c) (hD2 : ∀ c v, G c → okS v → endW R c v = to → 0 ≤ D c ∧ D c ≤ v.length) :
    ∀ (k c : Nat), G c → D c = (k : Int) → okS (grS R D k c) ∧ endW R c (grS R D k c) = to ∧ (grS R D k c).length = k ∧ ∀ v, okS v → endW R c v = to → v.length = k → grS R D k c = v ∨ lx (grS R D k c) v
  | 0, c, hc, hk => by
    obtain ⟨v, h1, h2, h3⟩ := hD1 c hc (by omega)
    have : v = [] := List.eq_nil_of_length_eq_zero (by omega)
    subst this
    exact ⟨h1, h2, rfl, fun u _ _ hu => .inl (List.eq_nil_of_length_eq_zero hu).symm⟩
  | k + 1, c, hc, hk => by
    -- a next step
    have next : ∀ t v, okS (t :: v) → endW R c (t :: v) = to → (t :: v).length = k + 1 → D (R c t) = (k : Int) := by
      intro t v h1 h2 h3
      have ht : t < 4 := h1 t (by simp)
      have hv : okS v := fun x hx => h1 x (by simp [hx])
      obtain ⟨q1, q2⟩ := hD2 (R c t) v (hG c t hc ht) hv h2
      obtain ⟨u, u1, u2, u3⟩ := hD1 (R c t) (hG c t hc ht) q1
      have := (hD2 c (t :: u) hc (by
        intro x hx
        rcases List.mem_cons.1 hx with rfl | hx
        · exact ht
        · exact u1 x hx) u2).2
      simp only [List.length_cons] at this h3
      omega
    obtain ⟨v0, h1, h2, h3⟩ := hD1 c hc (by omega)
    cases v0 with
    | nil => simp at h3; omega
    | cons t0 v0 =>
      have hl0 : (t0 :: v0).length = k + 1 := by omega
      obtain ⟨f1, f2, f3⟩ := ft_is R (h1 t0 (by simp)) (next t0 v0 h1 h2 hl0)
      obtain ⟨g1, g2, g3, g4⟩ := gr_is hG hD1 hD2 k (R c (ftS R D k c)) (hG c _ hc f1) f2
      refine ⟨?_, g2, by simp [grS, g3], fun v hv hv2 hv3 => ?_⟩
      · intro x hx
        rcases List.mem_cons.1 hx with rfl | hx
        · exact f1
        · exact g1 x hx
      · cases v with
        | nil => simp at hv3
        | cons t v =>
          obtain ⟨_, _, f4⟩ := ft_is R (hv t (by simp)) (next t v hv hv2 hv3)
          show (ftS R D k c :: grS R D k (R c (ftS R D k c))) = t :: v ∨ lx (ftS R D k c :: grS R D k (R c (ftS R D k c))) (t :: v)
          rcases Nat.lt_or_ge (ftS R D k c) t with q | q
          · exact .inr (.inl q)
          · have e : ftS R D k c = t := by omega
            rcases g4 v (fun x hx => hv x (by simp [hx])) (by rw [e]; exact hv2) (by simpa using hv3) with r | r
            · exact .inl (by rw [r, e])
            · exact .inr (.inr ⟨e, r⟩)
/-- the first of the words is that one -/
theorem gr_least {D : Nat → Int} {G : Nat → Prop} (hG : ∀ c t, G c → t < 4 → G (R c t))
    (hD1 : ∀ c, G c → 0 ≤ D c → ∃ v, okS v ∧ endW R c v = to ∧ (v.length : Int) = D c) (hD2 : ∀ c v, G c → okS v → endW R c v = to → 0 ≤ D c ∧ D c ≤ v.length)
    {b : Nat} {w : List Nat} (hb : G b) (h : LW R b to w) : D b = (w.length : Int) ∧ grS R D w.length b = w := by
  obtain ⟨h1, h2⟩ := hD2 b w hb h.ok h.to
  obtain ⟨v, v1, v2, v3⟩ := hD1 b hb h1
  have hl : w.length ≤ v.length := by
    rcases h.least v v1 v2 with q | q
    · rw [q]; exact Nat.le_refl _
    · rcases q with q | q <;> omega
  have hd : D b = (w.length : Int) := by omega
  obtain ⟨g1, g2, g3, g4⟩ := gr_is R to hG hD1 hD2 w.length b hb hd
  refine ⟨hd, ?_⟩
  rcases g4 w h.ok h.to rfl with q | q
  · exact q
  · rcases h.least _ g1 g2 with r | r
    · exact r.symm
    · rcases r with r | r
      · omega
      · exact absurd (lx_trans q r.2) (lx_irrefl _)
end
end Go.Proofs.Try
set_option maxHeartbeats 4000000
namespace Go.Proofs.Try
open Go.Vg

/-! grids -/
def bxy (w n side : Int) : Int × Int :=
  if side = 0 then (n.tmod w, n.tdiv w - 1) else if side = 1 then (n.tmod w + 1, n.tdiv w) else if side = 2 then (n.tmod w, n.tdiv w + 1) else if side = 3 then (n.tmod w - 1, n.tdiv w) else (n.tmod w, n.tdiv w)
def bsd (w n side : Int) : Int := (bxy w n side).2 * w + (bxy w n side).1
def bsdB (w h n side : Int) : Bool := (decide (0 ≤ (bxy w n side).1) && decide ((bxy w n side).1 ≤ w - 1)) && (decide (0 ≤ (bxy w n side).2) && decide ((bxy w n side).2 ≤ h - 1))
theorem bsd_range {w h n side : Int} (hw : 1 ≤ w) (h2 : bsdB w h n side = true) : 0 ≤ bsd w n side ∧ bsd w n side < w * h := by
  simp only [bsdB, Bool.and_eq_true, decide_eq_true_eq] at h2
  obtain ⟨⟨a, b⟩, c, d⟩ := h2
  unfold bsd
  generalize (bxy w n side).1 = x at *
  generalize (bxy w n side).2 = y at *
  have h1 : 0 ≤ y * w := Int.mul_nonneg c (by omega)
  have h3 : y * w ≤ (h - 1) * w := Int.mul_le_mul_of_nonneg_right d (by omega)
  have h4 : (h - 1) * w = w * h - w := by rw [Int.sub_mul, Int.one_mul, Int.mul_comm]
  omega
theorem bxy_bnd {w n side : Int} (hw : 1 ≤ w ∧ w ≤ 1000) (hn : 0 ≤ n ∧ n ≤ 1000) : -1 ≤ (bxy w n side).1 ∧ (bxy w n side).1 ≤ 1001 ∧ -1 ≤ (bxy w n side).2 ∧ (bxy w n side).2 ≤ 1001 := by
  have a1 := Int.tmod_nonneg w hn.1
  have a2 := Int.tmod_lt_of_pos n (b := w) (by omega)
  have a3 := Int.tdiv_nonneg hn.1 (by omega : 0 ≤ w)
  have a4 := Int.tdiv_le_self w hn.1
  unfold bxy
  split
  · simp only; omega
  split
  · simp only; omega
  split
  · simp only; omega
  split
  · simp only; omega
  · simp only; omega
theorem bsd_bnd {w n side : Int} (hw : 1 ≤ w ∧ w ≤ 1000) (hn : 0 ≤ n ∧ n ≤ 1000) : -1000000000 ≤ (bxy w n side).2 * w ∧ (bxy w n side).2 * w ≤ 1000000000 := by
  obtain ⟨_, _, h3, h4⟩ := bxy_bnd (side := side) hw hn
  have h1 : (bxy w n side).2 * w ≤ 1001 * w := Int.mul_le_mul_of_nonneg_right h4 (by omega)
  have h2 : -1 * w ≤ (bxy w n side).2 * w := Int.mul_le_mul_of_nonneg_right h3 (by omega)
  omega

/-! pieces -/
def pb (p k : Nat) : Bool := p / 2 ^ k % 2 == 1
section
variable (w h : Int) (pieces turns : List Int)
def opC (c s : Nat) : Bool := pb (pieces.getD c 0).toNat ((s + 4 - (turns.getD c 0).toNat) % 4)
/-- where water goes from a cell through a side -/
def link (c s : Nat) : Option Nat :=
  if bsdB w h c s = true then (if opC pieces turns (bsd w c s).toNat ((s + 2) % 4) = true then some (bsd w c s).toNat else none) else none
def leakN (c : Nat) : Nat → Nat
  | 0 => 0
  | s + 1 => leakN c s + if opC pieces turns c s = true ∧ link w h pieces turns c s = none then 1 else 0
inductive Reach (b : Nat) : Nat → Prop
  | base : Reach b b
  | step {c k s : Nat} : Reach b c → s < 4 → opC pieces turns c s = true → link w h pieces turns c s = some k → Reach b k
def sumL (f : Nat → Nat) : Nat → Nat
  | 0 => 0
  | c + 1 => sumL f c + f c
/-- the wet cells, and how often it leaks -/
structure IsRes (n b : Nat) (wet : List Bool) (leaks : Nat) : Prop where
  len : wet.length = n
  base : wet.getD b false = true
  shut : ∀ c s k, wet.getD c false = true → s < 4 → opC pieces turns c s = true → link w h pieces turns c s = some k → wet.getD k false = true
  sound : ∀ c, wet.getD c false = true → Reach w h pieces turns b c
  leak : leaks = sumL (fun c => if wet.getD c false = true then leakN w h pieces turns c 4 else 0) n
end
theorem IsRes.reach {w h : Int} {pieces turns : List Int} {n b : Nat} {wet : List Bool} {leaks : Nat} (r : IsRes w h pieces turns n b wet leaks) {c : Nat} (hc : Reach w h pieces turns b c) : wet.getD c false = true := by
  induction hc with
  | base => exact r.base
  | step _ h1 h2 h3 ih => exact r.shut _ _ _ ih h1 h2 h3
theorem IsRes.unique {w h : Int} {pieces turns : List Int} {n b : Nat} {wet wet' : List Bool} {leaks leaks' : Nat} (r : IsRes w h pieces turns n b wet leaks) (r' : IsRes w h pieces turns n b wet' leaks') : wet = wet' ∧ leaks = leaks' := by
  have e : wet = wet' := by
    apply List.ext_getElem
    · rw [r.len, r'.len]
    · intro c h1 h2
      have k1 := fun hc => r'.reach (r.sound c hc)
      have k2 := fun hc => r.reach (r'.sound c hc)
      simp [h1, h2] at k1 k2
      cases h3 : wet[c] <;> cases h4 : wet'[c] <;> simp_all
  subst e
  exact ⟨rfl, by rw [r.leak, r'.leak]⟩
/-! as the reference does it: cell by cell, again and again -/
section
variable (w h : Int) (pieces turns : List Int)
end
section
variable {w h : Int} {pieces turns : List Int}
end
end Go.Proofs.Try
