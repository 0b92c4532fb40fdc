/- A part of the proof of PuzzlesSheets: contracts of functions, with plain laws that they need. -/
import Derived.Shelf.Strings.Builder1
import Derived.Shelf.GgClosure.StringsIndexFunc
import Derived.Ground.GgwProg
import Derived.Shelf.GgClosure.StringsIndexFuncTop
import Derived.Shelf.Strings.FuncGrows
import Derived.Test.YtgoclpdoejhohaaVgT
import Derived.Test.YtgoclpdoejhohaaVgP
import Derived.Test.YtgoclpdoejhohaaVgX1J
set_option linter.all false
namespace Go.Proofs.Try
open Go.Vg

section
variable {σ : Type}
def wghS (f : Int → List Int → σ → σ × List Int) (sides : List Int) (s : σ) : Nat → σ × List Int
  | 0 => (s, sides)
  | j + 1 => f (j - 1 : Int) (wghS f sides s j).2 (wghS f sides s j).1
/-- all weighings, in the order of the code; what is done with each that is even -/
def wgh (go : σ → List Int → Int → σ) : List Int → Nat → Int → Int → List Int → σ → σ × List Int
  | [], _, sum, used, sides, s => if sum = 0 then (go s sides used, sides) else (s, sides)
  | w :: ws, i, sum, used, sides, s => wghS (fun c sides s => wgh go ws (i + 1) (sum + c * w) (used + c * c) (sides.set i c) s) sides s 3
theorem wghS_len {f : Int → List Int → σ → σ × List Int} (hf : ∀ c sides s, (f c sides s).2.length = sides.length) (sides : List Int) (s : σ) (j : Nat) : (wghS f sides s j).2.length = sides.length := by
  induction j with
  | zero => rfl
  | succ j ih => rw [wghS, hf, ih]
theorem wgh_len (go : σ → List Int → Int → σ) : ∀ (ws : List Int) (i : Nat) (sum used : Int) (sides : List Int) (s : σ), (wgh go ws i sum used sides s).2.length = sides.length
  | [], _, _, _, _, _ => by simp only [wgh]; split <;> rfl
  | w :: ws, i, sum, used, sides, s => by
    rw [wgh]; exact wghS_len (fun c sides s => by rw [wgh_len go ws]; simp) _ _ _

def wtail (N yid wid n : Nat) (sides : List Int) : Mem := [⟨0, .row 1 [.yld yid 0]⟩, ⟨0, .row 1 (sides.map AV.int)⟩, ⟨0, .row 1 [.osl (N + 1) 0 0 n]⟩, ⟨0, .row 1 [.clo 44 [.optr wid 0 0 0, .optr N 0 0 0, .optr (N + 2) 0 0 0, .optr (N + 3) 0 0 0]]⟩]

theorem getK {K : σ → Mem} {N : Nat} (hK : ∀ s, (K s).length = N) (s : σ) (l : Mem) (k : Nat) : (K s ++ l)[N + k]? = l[k]? := by
  rw [List.getElem?_append_right (by rw [hK]; omega), hK]; congr 1; omega
theorem getK0 {K : σ → Mem} {N : Nat} (hK : ∀ s, (K s).length = N) (s : σ) (l : Mem) : (K s ++ l)[N]? = l[0]? := getK hK s l 0
theorem setK {K : σ → Mem} {N : Nat} (hK : ∀ s, (K s).length = N) (s : σ) (l : Mem) (k : Nat) (e : Ent) : (K s ++ l).set (N + k) e = K s ++ l.set k e := by
  show List.set (α := Ent) _ _ _ = _
  rw [List.set_append_right _ _ (by rw [hK]; omega), hK]; congr 2; omega
theorem setK0 {K : σ → Mem} {N : Nat} (hK : ∀ s, (K s).length = N) (s : σ) (l : Mem) (e : Ent) : (K s ++ l).set N e = K s ++ l.set 0 e := setK hK s l 0 e
theorem getL {K : σ → Mem} {i : Nat} {e : Ent} (h : ∀ s, (K s)[i]? = some e) (s : σ) (l : Mem) : (K s ++ l)[i]? = some e := by
  rw [List.getElem?_append_left (List.getElem?_eq_some_iff.1 (h s)).1]; exact h s
theorem lenK {K : σ → Mem} {N : Nat} (hK : ∀ s, (K s).length = N) (s : σ) (l : Mem) : (K s ++ l).length = N + l.length := by
  rw [List.length_append, hK]
theorem takeK {K : σ → Mem} {N : Nat} (hK : ∀ s, (K s).length = N) (s : σ) (l : Mem) (k : Nat) : (K s ++ l).take (N + k) = K s ++ l.take k := by
  rw [List.take_append, List.take_of_length_le (by rw [hK]; omega), hK]; congr 2; omega
theorem takeK0 {K : σ → Mem} {N : Nat} (hK : ∀ s, (K s).length = N) (s : σ) (l : Mem) : (K s ++ l).take N = K s := by
  have := takeK hK s l 0; simpa using this

theorem wok (K : σ → Mem) (N yid wid : Nat) (hK : ∀ s, (K s).length = N) (hN : wid < N) (hKok : ∀ s k, N ≤ k → ∀ e ∈ K s, e.kind.ok k) (hyid : yid < N) (s : σ) (sides : List Int) (n : Nat) : ∀ e ∈ (K s ++ wtail N yid wid n sides).take (N + 4), e.kind.ok (N + 4) := by
  rw [takeK hK]
  intro e he
  rcases List.mem_append.1 he with h | h
  · exact hKok s _ (by omega) e h
  · have h2 : ∀ e ∈ wtail N yid wid n sides, e.kind.ok (N + 4) := by
      unfold wtail
      simp only [push_cast, seval]
      omega
    exact h2 e h
variable (K : σ → Mem) (N yid wid : Nat) (hK : ∀ s, (K s).length = N) (hN : wid < N) (ws : List Int) (hw : ∀ s, (K s)[wid]? = some ⟨0, .row 1 [.ints ws]⟩) (hKok : ∀ s k, N ≤ k → ∀ e ∈ K s, e.kind.ok k) (hyid : yid < N)
  (go : σ → List Int → Int → σ)
  (hY : ∀ s sides used, sides.length = ws.length → YSpec Try.prog (.yld yid 0) [.osl (N + 1) 0 0 ws.length, .int used] (K s ++ wtail N yid wid ws.length sides) fun x m' => x = .bool true ∧ m' = K (go s sides used) ++ wtail N yid wid ws.length sides)
  (hws : bnd 10000 ws) (hn : ws.length ≤ 10)
include hK hN hw hKok hyid hY hws hn
set_option maxHeartbeats 4000000 in
theorem weigh98 : ∀ (rest pre : List Int) (hpr : ws = pre ++ rest) (p : Nat) (hp : pre.length = p) (i : Int) (hi : i = p) (sum used : Int) (sides : List Int) (s : σ) (hsl : sides.length = ws.length) (hs1 : -(100000 + 10000 * i) ≤ sum ∧ sum ≤ 100000 + 10000 * i) (hs2 : 0 ≤ used ∧ used ≤ i),
    Go.Vg.Spec Try.prog 44 [.int i, .int sum, .int used, .optr wid 0 0 0, .optr N 0 0 0, .optr (N + 2) 0 0 0, .optr (N + 3) 0 0 0] (K s ++ wtail N yid wid ws.length sides)
      fun x m' => x = .bool true ∧ m' = K (wgh go rest p sum used sides s).1 ++ wtail N yid wid ws.length (wgh go rest p sum used sides s).2 := by
  intro rest
  induction rest with
  | nil =>
    intro pre hpr p hp i hi sum used sides s hsl hs1 hs2
    have hpl : ws.length = pre.length := by rw [hpr]; simp
    unfold wtail
    (refine Spec.of_body Try.func44 rfl (by rw [Try.ntmps44]; simp) (N + 4) (by rw [lenK hK]; simp) ?_; rw [Try.results44, Try.ntmps44]; simp only [entry, zipArgs, Nat.reduceAdd])
    repeat (first | apply Wp.seq | apply Wp.block | (apply Run.next; (simp only [push_cast, seval, getK hK, getK0 hK, setK hK, setK0 hK, getL hw, lenK hK, hK, List.append_assoc, takeK hK, takeK0 hK] <;> (try simp (disch := omega) only [wI, wU, wC]) <;> exact rfl); (focus ((try simp only [push_cast, seval, getK hK, getK0 hK, setK hK, setK0 hK, getL hw, lenK hK, hK, List.append_assoc, takeK hK, takeK0 hK]) <;> exact sT))) | ((first | apply Run.nil | apply Wp.skip); dsimp only [sQ, tQ, bQ]) | (apply Wp.run; (dsimp only [List.map] <;> exact rfl); exact rfl) | (apply Wp.exit; dsimp only [sQ, tQ, bQ]; simp only [reduceIte]))
    (apply Wp.cond; (simp only [push_cast, seval, getK hK, getK0 hK, setK hK, setK0 hK, getL hw, lenK hK, hK, List.append_assoc, takeK hK, takeK0 hK] <;> (try simp (disch := omega) only [wI, wU, wC]) <;> exact rfl))
    · (intro hc; try simp only [decide_eq_true_eq, decide_eq_false_iff_not, Bool.and_eq_true, Bool.or_eq_true, Bool.not_eq_true, Bool.not_eq_false, Bool.not_eq_true', Bool.not_eq_false', Bool.and_eq_false_iff, Bool.or_eq_false_iff, Int.not_lt, Int.not_le, Int.ofNat_lt, Int.ofNat_le] at hc)
      by_cases h0 : sum = 0
      · subst h0
        repeat (first | apply Wp.seq | apply Wp.block | (apply Run.next; (simp only [push_cast, seval, getK hK, getK0 hK, setK hK, setK0 hK, getL hw, lenK hK, hK, List.append_assoc, takeK hK, takeK0 hK] <;> (try simp (disch := omega) only [wI, wU, wC]) <;> exact rfl); (focus ((try simp only [push_cast, seval, getK hK, getK0 hK, setK hK, setK0 hK, getL hw, lenK hK, hK, List.append_assoc, takeK hK, takeK0 hK]) <;> exact sT))) | ((first | apply Run.nil | apply Wp.skip); dsimp only [sQ, tQ, bQ]) | (apply Wp.run; (dsimp only [List.map] <;> exact rfl); exact rfl) | (apply Wp.exit; dsimp only [sQ, tQ, bQ]; simp only [reduceIte]))
        (try (apply Run.gtrue; (simp only [push_cast, seval, getK hK, getK0 hK, setK hK, setK0 hK, getL hw, lenK hK, hK, List.append_assoc, takeK hK, takeK0 hK] <;> (try simp (disch := omega) only [wI, wU, wC]) <;> exact rfl); (simp only [push_cast, seval, getK hK, getK0 hK, setK hK, setK0 hK, getL hw, lenK hK, hK, List.append_assoc, takeK hK, takeK0 hK] <;> (try simp (disch := omega) only [wI, wU, wC]) <;> exact rfl)))
        (apply Run.ycall; exact rfl; (simp only [push_cast, seval, getK hK, getK0 hK, setK hK, setK0 hK, getL hw, lenK hK, hK, List.append_assoc, takeK hK, takeK0 hK] <;> (try simp (disch := omega) only [wI, wU, wC]) <;> exact rfl); (simp only [push_cast, seval, getK hK, getK0 hK, setK hK, setK0 hK, getL hw, lenK hK, hK, List.append_assoc, takeK hK, takeK0 hK] <;> (try simp (disch := omega) only [wI, wU, wC]) <;> exact rfl); (exact hY s sides used hsl); (rintro _ _ ⟨rfl, rfl⟩; dsimp only [S.put, optG]))
        repeat (first | apply Wp.seq | apply Wp.block | (apply Run.next; (simp only [push_cast, seval, getK hK, getK0 hK, setK hK, setK0 hK, getL hw, lenK hK, hK, List.append_assoc, takeK hK, takeK0 hK] <;> (try simp (disch := omega) only [wI, wU, wC]) <;> exact rfl); (focus ((try simp only [push_cast, seval, getK hK, getK0 hK, setK hK, setK0 hK, getL hw, lenK hK, hK, List.append_assoc, takeK hK, takeK0 hK]) <;> exact sT))) | ((first | apply Run.nil | apply Wp.skip); dsimp only [sQ, tQ, bQ]) | (apply Wp.run; (dsimp only [List.map] <;> exact rfl); exact rfl) | (apply Wp.exit; dsimp only [sQ, tQ, bQ]; simp only [reduceIte]))
        (apply Wp.ret; (try dsimp only [sQ, tQ, bQ]); apply leaveK; exact rfl; (simp only [push_cast, seval, getK hK, getK0 hK, setK hK, setK0 hK, getL hw, lenK hK, hK, List.append_assoc, takeK hK, takeK0 hK] <;> (try simp (disch := omega) only [wI, wU, wC]) <;> exact rfl); (focus (first | (simp only [push_cast, seval, getK hK, getK0 hK, setK hK, setK0 hK, getL hw, lenK hK, hK, List.append_assoc, takeK hK, takeK0 hK]; done) | trivial | (simp only [push_cast, seval, getK hK, getK0 hK, setK hK, setK0 hK, getL hw, lenK hK, hK, List.append_assoc, takeK hK, takeK0 hK]; trivial) | (simp; done))); (focus (first | (simp only [push_cast, seval, getK hK, getK0 hK, setK hK, setK0 hK, getL hw, lenK hK, hK, List.append_assoc, takeK hK, takeK0 hK]; done) | trivial | (simp only [push_cast, seval, getK hK, getK0 hK, setK hK, setK0 hK, getL hw, lenK hK, hK, List.append_assoc, takeK hK, takeK0 hK]; trivial) | (simp; done))); (exact wok K N yid wid hK hN hKok hyid _ _ _); (try simp only [push_cast, seval, getK hK, getK0 hK, setK hK, setK0 hK, getL hw, lenK hK, hK, List.append_assoc, takeK hK, takeK0 hK]))
        simp [wgh, wtail]
      · repeat (first | apply Wp.seq | apply Wp.block | (apply Run.next; (simp only [push_cast, seval, getK hK, getK0 hK, setK hK, setK0 hK, getL hw, lenK hK, hK, List.append_assoc, takeK hK, takeK0 hK, h0] <;> (try simp (disch := omega) only [wI, wU, wC]) <;> exact rfl); (focus ((try simp only [push_cast, seval, getK hK, getK0 hK, setK hK, setK0 hK, getL hw, lenK hK, hK, List.append_assoc, takeK hK, takeK0 hK, h0]) <;> exact sT))) | ((first | apply Run.nil | apply Wp.skip); dsimp only [sQ, tQ, bQ]) | (apply Wp.run; (dsimp only [List.map] <;> exact rfl); exact rfl) | (apply Wp.exit; dsimp only [sQ, tQ, bQ]; simp only [reduceIte]))
        (try (apply Run.gfalse (.bool false); (simp only [push_cast, seval, getK hK, getK0 hK, setK hK, setK0 hK, getL hw, lenK hK, hK, List.append_assoc, takeK hK, takeK0 hK, h0] <;> (try simp (disch := omega) only [wI, wU, wC]) <;> exact rfl); dsimp only [S.put, optG]))
        repeat (first | apply Wp.seq | apply Wp.block | (apply Run.next; (simp only [push_cast, seval, getK hK, getK0 hK, setK hK, setK0 hK, getL hw, lenK hK, hK, List.append_assoc, takeK hK, takeK0 hK, h0] <;> (try simp (disch := omega) only [wI, wU, wC]) <;> exact rfl); (focus ((try simp only [push_cast, seval, getK hK, getK0 hK, setK hK, setK0 hK, getL hw, lenK hK, hK, List.append_assoc, takeK hK, takeK0 hK, h0]) <;> exact sT))) | ((first | apply Run.nil | apply Wp.skip); dsimp only [sQ, tQ, bQ]) | (apply Wp.run; (dsimp only [List.map] <;> exact rfl); exact rfl) | (apply Wp.exit; dsimp only [sQ, tQ, bQ]; simp only [reduceIte]))
        (apply Wp.ret; (try dsimp only [sQ, tQ, bQ]); apply leaveK; exact rfl; (simp only [push_cast, seval, getK hK, getK0 hK, setK hK, setK0 hK, getL hw, lenK hK, hK, List.append_assoc, takeK hK, takeK0 hK, h0] <;> (try simp (disch := omega) only [wI, wU, wC]) <;> exact rfl); (focus (first | (simp only [push_cast, seval, getK hK, getK0 hK, setK hK, setK0 hK, getL hw, lenK hK, hK, List.append_assoc, takeK hK, takeK0 hK, h0]; done) | trivial | (simp only [push_cast, seval, getK hK, getK0 hK, setK hK, setK0 hK, getL hw, lenK hK, hK, List.append_assoc, takeK hK, takeK0 hK, h0]; trivial) | (simp; done))); (focus (first | (simp only [push_cast, seval, getK hK, getK0 hK, setK hK, setK0 hK, getL hw, lenK hK, hK, List.append_assoc, takeK hK, takeK0 hK, h0]; done) | trivial | (simp only [push_cast, seval, getK hK, getK0 hK, setK hK, setK0 hK, getL hw, lenK hK, hK, List.append_assoc, takeK hK, takeK0 hK, h0]; trivial) | (simp; done))); (exact wok K N yid wid hK hN hKok hyid _ _ _); (try simp only [push_cast, seval, getK hK, getK0 hK, setK hK, setK0 hK, getL hw, lenK hK, hK, List.append_assoc, takeK hK, takeK0 hK, h0]))
        simp [wgh, h0]
    · (intro hc; try simp only [decide_eq_true_eq, decide_eq_false_iff_not, Bool.and_eq_true, Bool.or_eq_true, Bool.not_eq_true, Bool.not_eq_false, Bool.not_eq_true', Bool.not_eq_false', Bool.and_eq_false_iff, Bool.or_eq_false_iff, Int.not_lt, Int.not_le, Int.ofNat_lt, Int.ofNat_le] at hc)
      omega
  | cons w rest ih =>
    intro pre hpr p hp i hi sum used sides s hsl hs1 hs2
    subst hi
    have hpl : ws.length = pre.length + (rest.length + 1) := by rw [hpr]; simp
    have hwi : ws.getD p 0 = w := by rw [hpr, ← hp]; simp
    have hwb := hws w (by rw [hpr]; simp)
    unfold wtail
    (refine Spec.of_body Try.func44 rfl (by rw [Try.ntmps44]; simp) (N + 4) (by rw [lenK hK]; simp) ?_; rw [Try.results44, Try.ntmps44]; simp only [entry, zipArgs, Nat.reduceAdd])
    repeat (first | apply Wp.seq | apply Wp.block | (apply Run.next; (simp only [push_cast, seval, getK hK, getK0 hK, setK hK, setK0 hK, getL hw, lenK hK, hK, List.append_assoc, takeK hK, takeK0 hK] <;> (try simp (disch := omega) only [wI, wU, wC]) <;> exact rfl); (focus ((try simp only [push_cast, seval, getK hK, getK0 hK, setK hK, setK0 hK, getL hw, lenK hK, hK, List.append_assoc, takeK hK, takeK0 hK]) <;> exact sT))) | ((first | apply Run.nil | apply Wp.skip); dsimp only [sQ, tQ, bQ]) | (apply Wp.run; (dsimp only [List.map] <;> exact rfl); exact rfl) | (apply Wp.exit; dsimp only [sQ, tQ, bQ]; simp only [reduceIte]))
    (apply Wp.cond; (simp only [push_cast, seval, getK hK, getK0 hK, setK hK, setK0 hK, getL hw, lenK hK, hK, List.append_assoc, takeK hK, takeK0 hK] <;> (try simp (disch := omega) only [wI, wU, wC]) <;> exact rfl))
    · (intro hc; try simp only [decide_eq_true_eq, decide_eq_false_iff_not, Bool.and_eq_true, Bool.or_eq_true, Bool.not_eq_true, Bool.not_eq_false, Bool.not_eq_true', Bool.not_eq_false', Bool.and_eq_false_iff, Bool.or_eq_false_iff, Int.not_lt, Int.not_le, Int.ofNat_lt, Int.ofNat_le] at hc)
      omega
    · (intro hc; try simp only [decide_eq_true_eq, decide_eq_false_iff_not, Bool.and_eq_true, Bool.or_eq_true, Bool.not_eq_true, Bool.not_eq_false, Bool.not_eq_true', Bool.not_eq_false', Bool.and_eq_false_iff, Bool.or_eq_false_iff, Int.not_lt, Int.not_le, Int.ofNat_lt, Int.ofNat_le] at hc)
      repeat (first | apply Wp.seq | apply Wp.block | (apply Run.next; (simp only [push_cast, seval, getK hK, getK0 hK, setK hK, setK0 hK, getL hw, lenK hK, hK, List.append_assoc, takeK hK, takeK0 hK] <;> (try simp (disch := omega) only [wI, wU, wC]) <;> exact rfl); (focus ((try simp only [push_cast, seval, getK hK, getK0 hK, setK hK, setK0 hK, getL hw, lenK hK, hK, List.append_assoc, takeK hK, takeK0 hK]) <;> exact sT))) | ((first | apply Run.nil | apply Wp.skip); dsimp only [sQ, tQ, bQ]) | (apply Wp.run; (dsimp only [List.map] <;> exact rfl); exact rfl) | (apply Wp.exit; dsimp only [sQ, tQ, bQ]; simp only [reduceIte]))
      obtain ⟨f, hf⟩ : ∃ f : Int → List Int → σ → σ × List Int, f = fun c sides s => wgh go rest (p + 1) (sum + c * w) (used + c * c) (sides.set p c) s := ⟨_, rfl⟩
      have hfl : ∀ j, (wghS f sides s j).2.length = sides.length := fun j => wghS_len (fun c sides s => by rw [hf, wgh_len]; simp) _ _ _
      refine Wp.loop (fun j : Nat => { t := [(0, .int p), (1, .int sum), (2, .int used), (3, .optr wid 0 0 0), (4, .optr N 0 0 0), (5, .optr (N + 2) 0 0 0), (6, .optr (N + 3) 0 0 0), (11, .int (j - 1))], m := K (wghS f sides s j).1 ++ [⟨0, .row 1 [.yld yid 0]⟩, ⟨0, .row 1 ((wghS f sides s j).2.map AV.int)⟩, ⟨0, .row 1 [.osl (N + 1) 0 0 ws.length]⟩, ⟨0, .row 1 [.clo 44 [.optr wid 0 0 0, .optr N 0 0 0, .optr (N + 2) 0 0 0, .optr (N + 3) 0 0 0]]⟩], n := 50 }) (fun j => j ≤ 3) (fun j => 3 - j) 0 ?_ ?_ ?_
      · (refine Le.of ?_ ?_ rfl rfl <;> (try simp only [push_cast, seval, getK hK, getK0 hK, setK hK, setK0 hK, getL hw, lenK hK, hK, List.append_assoc, takeK hK, takeK0 hK, hwi]) <;> (try (with_reducible rfl)))
        all_goals rfl
      · omega
      · intro j hj
        have hjl := hfl j
        repeat (first | apply Wp.seq | apply Wp.block | (apply Run.next; (simp only [push_cast, seval, getK hK, getK0 hK, setK hK, setK0 hK, getL hw, lenK hK, hK, List.append_assoc, takeK hK, takeK0 hK, hwi] <;> (try simp (disch := omega) only [wI, wU, wC]) <;> exact rfl); (focus ((try simp only [push_cast, seval, getK hK, getK0 hK, setK hK, setK0 hK, getL hw, lenK hK, hK, List.append_assoc, takeK hK, takeK0 hK, hwi]) <;> exact sT))) | ((first | apply Run.nil | apply Wp.skip); dsimp only [sQ, tQ, bQ]) | (apply Wp.run; (dsimp only [List.map] <;> exact rfl); exact rfl) | (apply Wp.exit; dsimp only [sQ, tQ, bQ]; simp only [reduceIte]))
        (apply Wp.cond; (simp only [push_cast, seval, getK hK, getK0 hK, setK hK, setK0 hK, getL hw, lenK hK, hK, List.append_assoc, takeK hK, takeK0 hK, hwi] <;> (try simp (disch := omega) only [wI, wU, wC]) <;> exact rfl))
        · (intro hc; try simp only [decide_eq_true_eq, decide_eq_false_iff_not, Bool.and_eq_true, Bool.or_eq_true, Bool.not_eq_true, Bool.not_eq_false, Bool.not_eq_true', Bool.not_eq_false', Bool.and_eq_false_iff, Bool.or_eq_false_iff, Int.not_lt, Int.not_le, Int.ofNat_lt, Int.ofNat_le] at hc)
          have hcw : -10000 ≤ ((j : Int) - 1) * w ∧ ((j : Int) - 1) * w ≤ 10000 := by
            obtain rfl | rfl | rfl : j = 0 ∨ j = 1 ∨ j = 2 := by omega
            all_goals (simp; try omega)
          have hcc : 0 ≤ ((j : Int) - 1) * ((j : Int) - 1) ∧ ((j : Int) - 1) * ((j : Int) - 1) ≤ 1 := by
            obtain rfl | rfl | rfl : j = 0 ∨ j = 1 ∨ j = 2 := by omega
            all_goals simp
          repeat (first | apply Wp.seq | apply Wp.block | (apply Run.next; (simp only [push_cast, seval, getK hK, getK0 hK, setK hK, setK0 hK, getL hw, lenK hK, hK, List.append_assoc, takeK hK, takeK0 hK, hwi] <;> (try simp (disch := omega) only [wI, wU, wC]) <;> exact rfl); (focus ((try simp only [push_cast, seval, getK hK, getK0 hK, setK hK, setK0 hK, getL hw, lenK hK, hK, List.append_assoc, takeK hK, takeK0 hK, hwi]) <;> exact sT))) | ((first | apply Run.nil | apply Wp.skip); dsimp only [sQ, tQ, bQ]) | (apply Wp.run; (dsimp only [List.map] <;> exact rfl); exact rfl) | (apply Wp.exit; dsimp only [sQ, tQ, bQ]; simp only [reduceIte]))
          (apply Wp.runD 16 mixed; (dsimp only [List.map] <;> exact rfl); exact rfl; kernel_rfl; (dsimp only [List.take] <;> exact rfl); (dsimp only [List.drop] <;> exact rfl); (((repeat (apply Abn.next; (simp only [push_cast, seval, getK hK, getK0 hK, setK hK, setK0 hK, getL hw, lenK hK, hK, List.append_assoc, takeK hK, takeK0 hK, hwi] <;> (try simp (disch := omega) only [wI, wU, wC]) <;> exact rfl); (focus ((try simp only [push_cast, seval, getK hK, getK0 hK, setK hK, setK0 hK, getL hw, lenK hK, hK, List.append_assoc, takeK hK, takeK0 hK, hwi]) <;> exact sT))))); exact Abn.nil))
          (apply Run.spec (he := (Enters.of Try.func44 rfl rfl)); exact rfl; (simp only [push_cast, seval, getK hK, getK0 hK, setK hK, setK0 hK, getL hw, lenK hK, hK, List.append_assoc, takeK hK, takeK0 hK, hwi] <;> first | exact rfl | assumption); (simp only [push_cast, seval, getK hK, getK0 hK, setK hK, setK0 hK, getL hw, lenK hK, hK, List.append_assoc, takeK hK, takeK0 hK, hwi] <;> (try simp (disch := omega) only [wI, wU, wC]) <;> exact rfl); (exact ih (pre ++ [w]) (by rw [hpr]; simp) (p + 1) (by simp [hp]) (p + 1) (by simp) (sum + (j - 1) * w) (used + (j - 1) * (j - 1)) ((wghS f sides s j).2.set p (j - 1)) (wghS f sides s j).1 (by rw [List.length_set, hjl, hsl]) (by omega) (by omega)); (rintro _ _ ⟨rfl, rfl⟩; dsimp only [S.put, optG]))
          repeat (first | apply Wp.seq | apply Wp.block | (apply Run.next; (simp only [push_cast, seval, getK hK, getK0 hK, setK hK, setK0 hK, getL hw, lenK hK, hK, List.append_assoc, takeK hK, takeK0 hK, hwi] <;> (try simp (disch := omega) only [wI, wU, wC]) <;> exact rfl); (focus ((try simp only [push_cast, seval, getK hK, getK0 hK, setK hK, setK0 hK, getL hw, lenK hK, hK, List.append_assoc, takeK hK, takeK0 hK, hwi]) <;> exact sT))) | ((first | apply Run.nil | apply Wp.skip); dsimp only [sQ, tQ, bQ]) | (apply Wp.run; (dsimp only [List.map] <;> exact rfl); exact rfl) | (apply Wp.exit; dsimp only [sQ, tQ, bQ]; simp only [reduceIte]))
          (apply Wp.cond; (simp only [push_cast, seval, getK hK, getK0 hK, setK hK, setK0 hK, getL hw, lenK hK, hK, List.append_assoc, takeK hK, takeK0 hK, hwi] <;> (try simp (disch := omega) only [wI, wU, wC]) <;> exact rfl))
          · (intro hc; try simp only [decide_eq_true_eq, decide_eq_false_iff_not, Bool.and_eq_true, Bool.or_eq_true, Bool.not_eq_true, Bool.not_eq_false, Bool.not_eq_true', Bool.not_eq_false', Bool.and_eq_false_iff, Bool.or_eq_false_iff, Int.not_lt, Int.not_le, Int.ofNat_lt, Int.ofNat_le] at hc)
            cases hc
          · intro h2
            repeat (first | apply Wp.seq | apply Wp.block | (apply Run.next; (simp only [push_cast, seval, getK hK, getK0 hK, setK hK, setK0 hK, getL hw, lenK hK, hK, List.append_assoc, takeK hK, takeK0 hK, hwi] <;> (try simp (disch := omega) only [wI, wU, wC]) <;> exact rfl); (focus ((try simp only [push_cast, seval, getK hK, getK0 hK, setK hK, setK0 hK, getL hw, lenK hK, hK, List.append_assoc, takeK hK, takeK0 hK, hwi]) <;> exact sT))) | ((first | apply Run.nil | apply Wp.skip); dsimp only [sQ, tQ, bQ]) | (apply Wp.run; (dsimp only [List.map] <;> exact rfl); exact rfl) | (apply Wp.exit; dsimp only [sQ, tQ, bQ]; simp only [reduceIte]))
            refine ⟨j + 1, ?_, by omega, by omega⟩
            (refine Le.of ?_ ?_ rfl rfl <;> (try simp only [push_cast, seval, getK hK, getK0 hK, setK hK, setK0 hK, getL hw, lenK hK, hK, List.append_assoc, takeK hK, takeK0 hK, hwi]) <;> (try (with_reducible rfl)))
            · rw [wghS, hf]; rfl
            · congr 2; omega
        · (intro hc; try simp only [decide_eq_true_eq, decide_eq_false_iff_not, Bool.and_eq_true, Bool.or_eq_true, Bool.not_eq_true, Bool.not_eq_false, Bool.not_eq_true', Bool.not_eq_false', Bool.and_eq_false_iff, Bool.or_eq_false_iff, Int.not_lt, Int.not_le, Int.ofNat_lt, Int.ofNat_le] at hc)
          obtain rfl : j = 3 := by omega
          repeat (first | apply Wp.seq | apply Wp.block | (apply Run.next; (simp only [push_cast, seval, getK hK, getK0 hK, setK hK, setK0 hK, getL hw, lenK hK, hK, List.append_assoc, takeK hK, takeK0 hK, hwi] <;> (try simp (disch := omega) only [wI, wU, wC]) <;> exact rfl); (focus ((try simp only [push_cast, seval, getK hK, getK0 hK, setK hK, setK0 hK, getL hw, lenK hK, hK, List.append_assoc, takeK hK, takeK0 hK, hwi]) <;> exact sT))) | ((first | apply Run.nil | apply Wp.skip); dsimp only [sQ, tQ, bQ]) | (apply Wp.run; (dsimp only [List.map] <;> exact rfl); exact rfl) | (apply Wp.exit; dsimp only [sQ, tQ, bQ]; simp only [reduceIte]))
          (apply Wp.ret; (try dsimp only [sQ, tQ, bQ]); apply leaveK; exact rfl; (simp only [push_cast, seval, getK hK, getK0 hK, setK hK, setK0 hK, getL hw, lenK hK, hK, List.append_assoc, takeK hK, takeK0 hK, hwi] <;> (try simp (disch := omega) only [wI, wU, wC]) <;> exact rfl); (focus (first | (simp only [push_cast, seval, getK hK, getK0 hK, setK hK, setK0 hK, getL hw, lenK hK, hK, List.append_assoc, takeK hK, takeK0 hK, hwi]; done) | trivial | (simp only [push_cast, seval, getK hK, getK0 hK, setK hK, setK0 hK, getL hw, lenK hK, hK, List.append_assoc, takeK hK, takeK0 hK, hwi]; trivial) | (simp; done))); (focus (first | (simp only [push_cast, seval, getK hK, getK0 hK, setK hK, setK0 hK, getL hw, lenK hK, hK, List.append_assoc, takeK hK, takeK0 hK, hwi]; done) | trivial | (simp only [push_cast, seval, getK hK, getK0 hK, setK hK, setK0 hK, getL hw, lenK hK, hK, List.append_assoc, takeK hK, takeK0 hK, hwi]; trivial) | (simp; done))); (exact wok K N yid wid hK hN hKok hyid _ _ _); (try simp only [push_cast, seval, getK hK, getK0 hK, setK hK, setK0 hK, getL hw, lenK hK, hK, List.append_assoc, takeK hK, takeK0 hK, hwi]))
          rw [wgh, hf]

theorem weigh97 (lid : Nat) (load : Int) (hl : ∀ s, (K s)[lid]? = some ⟨0, .row 1 [.int load]⟩) (hld : -100000 ≤ load ∧ load ≤ 100000) (s : σ) :
    Go.Vg.Spec Try.prog 43 [.yld yid 0, .optr wid 0 0 0, .optr lid 0 0 0] (K s) fun _ m' => m' = K (wgh go ws 0 (0 - load) 0 (List.replicate ws.length 0) s).1 := by
  (refine Spec.of_body Try.func43 rfl (by rw [Try.ntmps43]; simp) N (by rw [hK]; simp) ?_; rw [Try.results43, Try.ntmps43]; simp only [entry, zipArgs, Nat.reduceAdd])
  repeat (first | apply Wp.seq | apply Wp.block | (apply Run.next; (simp only [push_cast, seval, getK hK, getK0 hK, setK hK, setK0 hK, getL hw, getL hl, lenK hK, hK, List.append_assoc, takeK hK, takeK0 hK, hw, hl] <;> (try simp (disch := omega) only [wI, wU, wC]) <;> exact rfl); (focus ((try simp only [push_cast, seval, getK hK, getK0 hK, setK hK, setK0 hK, getL hw, getL hl, lenK hK, hK, List.append_assoc, takeK hK, takeK0 hK, hw, hl]) <;> exact sT))) | ((first | apply Run.nil | apply Wp.skip); dsimp only [sQ, tQ, bQ]) | (apply Wp.run; (dsimp only [List.map] <;> exact rfl); exact rfl) | (apply Wp.exit; dsimp only [sQ, tQ, bQ]; simp only [reduceIte]))
  (apply Run.spec (he := (Enters.of Try.func44 rfl rfl)); exact rfl; (simp only [push_cast, seval, getK hK, getK0 hK, setK hK, setK0 hK, getL hw, getL hl, lenK hK, hK, List.append_assoc, takeK hK, takeK0 hK, hw, hl] <;> first | exact rfl | assumption); (simp only [push_cast, seval, getK hK, getK0 hK, setK hK, setK0 hK, getL hw, getL hl, lenK hK, hK, List.append_assoc, takeK hK, takeK0 hK, hw, hl] <;> (try simp (disch := omega) only [wI, wU, wC]) <;> exact rfl); (exact weigh98 K N yid wid hK hN ws hw hKok hyid go hY hws hn ws [] rfl 0 rfl 0 rfl (0 - load) 0 (List.replicate ws.length 0) s (by simp) (by omega) (by omega)); (rintro _ _ ⟨rfl, rfl⟩; dsimp only [S.put, optG]))
  repeat (first | apply Wp.seq | apply Wp.block | (apply Run.next; (simp only [push_cast, seval, getK hK, getK0 hK, setK hK, setK0 hK, getL hw, getL hl, lenK hK, hK, List.append_assoc, takeK hK, takeK0 hK, hw, hl] <;> (try simp (disch := omega) only [wI, wU, wC]) <;> exact rfl); (focus ((try simp only [push_cast, seval, getK hK, getK0 hK, setK hK, setK0 hK, getL hw, getL hl, lenK hK, hK, List.append_assoc, takeK hK, takeK0 hK, hw, hl]) <;> exact sT))) | ((first | apply Run.nil | apply Wp.skip); dsimp only [sQ, tQ, bQ]) | (apply Wp.run; (dsimp only [List.map] <;> exact rfl); exact rfl) | (apply Wp.exit; dsimp only [sQ, tQ, bQ]; simp only [reduceIte]))
  apply Run.nil
  apply leaveN; exact rfl; (simp only [push_cast, seval, getK hK, getK0 hK, setK hK, setK0 hK, getL hw, getL hl, lenK hK, hK, List.append_assoc, takeK hK, takeK0 hK, hw, hl] <;> (try simp (disch := omega) only [wI, wU, wC]) <;> exact rfl); (focus (first | (simp only [push_cast, seval, getK hK, getK0 hK, setK hK, setK0 hK, getL hw, getL hl, lenK hK, hK, List.append_assoc, takeK hK, takeK0 hK, hw, hl]; done) | trivial | (simp only [push_cast, seval, getK hK, getK0 hK, setK hK, setK0 hK, getL hw, getL hl, lenK hK, hK, List.append_assoc, takeK hK, takeK0 hK, hw, hl]; trivial) | (simp; done))); (focus (first | (simp only [push_cast, seval, getK hK, getK0 hK, setK hK, setK0 hK, getL hw, getL hl, lenK hK, hK, List.append_assoc, takeK hK, takeK0 hK, hw, hl]; done) | trivial | (simp only [push_cast, seval, getK hK, getK0 hK, setK hK, setK0 hK, getL hw, getL hl, lenK hK, hK, List.append_assoc, takeK hK, takeK0 hK, hw, hl]; trivial) | (simp; done)))
  · rw [takeK0 hK]; exact hKok _ _ (Nat.le_refl _)
  · rw [takeK0 hK]
end
end Go.Proofs.Try
namespace Go.Proofs.Try
open Go.Vg

theorem weighed1_pure (n : Int) : Pure Try.prog 42 [.int n] (.bool (!(decide (1 ≤ n) && decide (n ≤ 10000)))) := by
  (refine Spec.of_body Try.func42 rfl (by rw [Try.ntmps42]; simp) 0 (by simp) ?_; rw [Try.results42, Try.ntmps42]; simp only [entry, zipArgs, Nat.reduceAdd])
  repeat (first | apply Wp.seq | apply Wp.block | (apply Run.next; (simp only [push_cast, seval] <;> (try simp (disch := omega) only [wI, wU, wC]) <;> exact rfl); (focus ((try simp only [push_cast, seval]) <;> exact sT))) | ((first | apply Run.nil | apply Wp.skip); dsimp only [sQ, tQ, bQ]) | (apply Wp.run; (dsimp only [List.map] <;> exact rfl); exact rfl) | (apply Wp.exit; dsimp only [sQ, tQ, bQ]; simp only [reduceIte]))
  (apply Run.pureP; (simp only [push_cast, seval] <;> (try simp (disch := omega) only [wI, wU, wC]) <;> exact rfl); (exact (Enters.of Try.func10 rfl rfl)); (exact within_pure _ _ _); (focus (simp only [push_cast, seval] <;> first | trivial | assumption | (refine ⟨?_, ?_⟩ <;> assumption) | (simp; done))); (try dsimp only [putA, optG]))
  repeat (first | apply Wp.seq | apply Wp.block | (apply Run.next; (simp only [push_cast, seval] <;> (try simp (disch := omega) only [wI, wU, wC]) <;> exact rfl); (focus ((try simp only [push_cast, seval]) <;> exact sT))) | ((first | apply Run.nil | apply Wp.skip); dsimp only [sQ, tQ, bQ]) | (apply Wp.run; (dsimp only [List.map] <;> exact rfl); exact rfl) | (apply Wp.exit; dsimp only [sQ, tQ, bQ]; simp only [reduceIte]))
  (apply Wp.ret; (try dsimp only [sQ, tQ, bQ]); apply leave0; exact rfl; (simp only [push_cast, seval] <;> (try simp (disch := omega) only [wI, wU, wC]) <;> exact rfl); all_goals (try simp only [push_cast, seval]); (try rfl))

def weighedB (ws : List Int) (load : Int) : Bool := decide ((ws.length : Int) ≤ 10) && (decide (0 ≤ load) && decide (load ≤ 10000)) && ws.all fun n => decide (1 ≤ n) && decide (n ≤ 10000)

theorem weighed_pure (ws : List Int) (load : Int) : Pure Try.prog 31 [.ints ws, .int load] (.bool (weighedB ws load)) := by
  (refine Spec.of_body Try.func31 rfl (by rw [Try.ntmps31]; simp) 0 (by simp) ?_; rw [Try.results31, Try.ntmps31]; simp only [entry, zipArgs, Nat.reduceAdd])
  apply Wp.len 0; (simp only [push_cast, seval] <;> (try simp (disch := omega) only [wI, wU, wC]) <;> exact rfl)
  intro hlen
  simp only [List.length_map] at hlen
  repeat (first | apply Wp.seq | apply Wp.block | (apply Run.next; (simp only [push_cast, seval] <;> (try simp (disch := omega) only [wI, wU, wC]) <;> exact rfl); (focus ((try simp only [push_cast, seval]) <;> exact sT))) | ((first | apply Run.nil | apply Wp.skip); dsimp only [sQ, tQ, bQ]) | (apply Wp.run; (dsimp only [List.map] <;> exact rfl); exact rfl) | (apply Wp.exit; dsimp only [sQ, tQ, bQ]; simp only [reduceIte]))
  (apply Run.pureP; (simp only [push_cast, seval] <;> (try simp (disch := omega) only [wI, wU, wC]) <;> exact rfl); (exact (Enters.of Try.func10 rfl rfl)); (exact within_pure _ _ _); (focus (simp only [push_cast, seval] <;> first | trivial | assumption | (refine ⟨?_, ?_⟩ <;> assumption) | (simp; done))); (try dsimp only [putA, optG]))
  repeat (first | apply Wp.seq | apply Wp.block | (apply Run.next; (simp only [push_cast, seval] <;> (try simp (disch := omega) only [wI, wU, wC]) <;> exact rfl); (focus ((try simp only [push_cast, seval]) <;> exact sT))) | ((first | apply Run.nil | apply Wp.skip); dsimp only [sQ, tQ, bQ]) | (apply Wp.run; (dsimp only [List.map] <;> exact rfl); exact rfl) | (apply Wp.exit; dsimp only [sQ, tQ, bQ]; simp only [reduceIte]))
  (apply Run.pureP; (simp only [push_cast, seval] <;> (try simp (disch := omega) only [wI, wU, wC]) <;> exact rfl); (exact (Enters.of Try.func34 rfl rfl)); (exact containsFunc_pure ws 42 [] _ (Enters.of Try.func42 rfl rfl) trivial (fun _ => ⟨rfl, rfl⟩) (fun x _ => weighed1_pure x) hlen); (focus (simp only [push_cast, seval] <;> first | trivial | assumption | (refine ⟨?_, ?_⟩ <;> assumption) | (simp; done))); (try dsimp only [putA, optG]))
  repeat (first | apply Wp.seq | apply Wp.block | (apply Run.next; (simp only [push_cast, seval] <;> (try simp (disch := omega) only [wI, wU, wC]) <;> exact rfl); (focus ((try simp only [push_cast, seval]) <;> exact sT))) | ((first | apply Run.nil | apply Wp.skip); dsimp only [sQ, tQ, bQ]) | (apply Wp.run; (dsimp only [List.map] <;> exact rfl); exact rfl) | (apply Wp.exit; dsimp only [sQ, tQ, bQ]; simp only [reduceIte]))
  (apply Wp.ret; (try dsimp only [sQ, tQ, bQ]); apply leave0; exact rfl; (simp only [push_cast, seval] <;> (try simp (disch := omega) only [wI, wU, wC]) <;> exact rfl); all_goals (try simp only [push_cast, seval]); (try rfl))
  unfold weighedB
  rw [any_not]
  simp

theorem weighings_spec (ws : List Int) (load : Int) : Go.Vg.Spec Try.prog 32 [.ints ws, .int load] [] fun x m' => x = .clo 43 [.optr 0 0 0 0, .optr 1 0 0 0] ∧ m' = [⟨0, .row 1 [.ints ws]⟩, ⟨0, .row 1 [.int load]⟩] := by
  (refine Spec.of_body Try.func32 rfl (by rw [Try.ntmps32]; simp) 2 (by simp) ?_; rw [Try.results32, Try.ntmps32]; simp only [entry, zipArgs, Nat.reduceAdd])
  repeat (first | apply Wp.seq | apply Wp.block | (apply Run.next; (simp only [push_cast, seval] <;> (try simp (disch := omega) only [wI, wU, wC]) <;> exact rfl); (focus ((try simp only [push_cast, seval]) <;> exact sT))) | ((first | apply Run.nil | apply Wp.skip); dsimp only [sQ, tQ, bQ]) | (apply Wp.run; (dsimp only [List.map] <;> exact rfl); exact rfl) | (apply Wp.exit; dsimp only [sQ, tQ, bQ]; simp only [reduceIte]))
  (apply Wp.ret; (try dsimp only [sQ, tQ, bQ]); apply leaveK; exact rfl; (simp only [push_cast, seval] <;> (try simp (disch := omega) only [wI, wU, wC]) <;> exact rfl); (focus (first | (simp only [push_cast, seval]; done) | trivial | (simp only [push_cast, seval]; trivial) | (simp; done))); (focus (first | (simp only [push_cast, seval]; done) | trivial | (simp only [push_cast, seval]; trivial) | (simp; done))); (focus (first | (simp only [push_cast, seval]; done) | trivial | (simp only [push_cast, seval]; trivial) | (simp; done))); (try simp only [push_cast, seval]))

def sv : Option (List Int) → AV
  | none => .emp
  | some l => .ints l
theorem sv_ok (k : Nat) (o : Option (List Int)) : (sv o).ok k = True := by cases o <;> simp [sv, AV.ok, okL_int]
/-- what Weigh does with a weighing -/
def goW (s : Option (List Int) × Int) (sides : List Int) (used : Int) : Option (List Int) × Int := if s.2 < 0 ∨ used < s.2 then (some sides, used) else s
def bestW (ws : List Int) (load : Int) : Option (List Int) × Int := (wgh goW ws 0 (0 - load) 0 (List.replicate ws.length 0) (none, -1)).1
def weighV (ws : List Int) (load : Int) : AV × Int :=
  if weighedB ws load then (if (bestW ws load).2 < 0 then (.emp, 3) else (sv (bestW ws load).1, 0)) else (.emp, 1)

def Kw (ws : List Int) (load : Int) (L : Kind) (s : Option (List Int) × Int) : Mem := [⟨0, .row 1 [sv s.1]⟩, ⟨0, .row 1 [.int s.2]⟩, ⟨0, .row 1 [.ints ws]⟩, ⟨0, .row 1 [.int load]⟩, ⟨0, .dfr⟩, ⟨0, L⟩]

theorem weigh_pure (ws : List Int) (load : Int) : Pure Try.prog 20 [.ints ws, .int load] (.tup [(weighV ws load).1, .int (weighV ws load).2]) := by
  (refine Spec.of_body Try.func20 rfl (by rw [Try.ntmps20]; simp) 0 (by simp) ?_; rw [Try.results20, Try.ntmps20]; simp only [entry, zipArgs, Nat.reduceAdd])
  repeat (first | apply Wp.seq | apply Wp.block | (apply Run.next; (simp only [push_cast, seval] <;> (try simp (disch := omega) only [wI, wU, wC]) <;> exact rfl); (focus ((try simp only [push_cast, seval]) <;> exact sT))) | ((first | apply Run.nil | apply Wp.skip); dsimp only [sQ, tQ, bQ]) | (apply Wp.run; (dsimp only [List.map] <;> exact rfl); exact rfl) | (apply Wp.exit; dsimp only [sQ, tQ, bQ]; simp only [reduceIte]))
  (apply Run.pureP; (simp only [push_cast, seval] <;> (try simp (disch := omega) only [wI, wU, wC]) <;> exact rfl); (exact (Enters.of Try.func31 rfl rfl)); (exact weighed_pure _ _); (focus (simp only [push_cast, seval] <;> first | trivial | assumption | (refine ⟨?_, ?_⟩ <;> assumption) | (simp; done))); (try dsimp only [putA, optG]))
  repeat (first | apply Wp.seq | apply Wp.block | (apply Run.next; (simp only [push_cast, seval] <;> (try simp (disch := omega) only [wI, wU, wC]) <;> exact rfl); (focus ((try simp only [push_cast, seval]) <;> exact sT))) | ((first | apply Run.nil | apply Wp.skip); dsimp only [sQ, tQ, bQ]) | (apply Wp.run; (dsimp only [List.map] <;> exact rfl); exact rfl) | (apply Wp.exit; dsimp only [sQ, tQ, bQ]; simp only [reduceIte]))
  (apply Wp.cond; (simp only [push_cast, seval] <;> (try simp (disch := omega) only [wI, wU, wC]) <;> exact rfl))
  · intro hc
    repeat (first | apply Wp.seq | apply Wp.block | (apply Run.next; (simp only [push_cast, seval] <;> (try simp (disch := omega) only [wI, wU, wC]) <;> exact rfl); (focus ((try simp only [push_cast, seval]) <;> exact sT))) | ((first | apply Run.nil | apply Wp.skip); dsimp only [sQ, tQ, bQ]) | (apply Wp.run; (dsimp only [List.map] <;> exact rfl); exact rfl) | (apply Wp.exit; dsimp only [sQ, tQ, bQ]; simp only [reduceIte]))
    (apply Wp.ret; (try dsimp only [sQ, tQ, bQ]); apply leave0; exact rfl; (simp only [push_cast, seval] <;> (try simp (disch := omega) only [wI, wU, wC]) <;> exact rfl); all_goals (try simp only [push_cast, seval]); (try rfl))
    simp only [Bool.not_eq_true'] at hc
    simp [weighV, hc]
  · intro hc
    simp only [Bool.not_eq_false'] at hc
    have hwd := hc
    have hw := hc
    simp only [weighedB, Bool.and_eq_true, decide_eq_true_eq, List.all_eq_true] at hw
    obtain ⟨⟨hw1, hw2⟩, hw3⟩ := hw
    have hb : bnd 10000 ws := fun x hx => by have := hw3 x hx; omega
    repeat (first | apply Wp.seq | apply Wp.block | (apply Run.next; (simp only [push_cast, seval] <;> (try simp (disch := omega) only [wI, wU, wC]) <;> exact rfl); (focus ((try simp only [push_cast, seval]) <;> exact sT))) | ((first | apply Run.nil | apply Wp.skip); dsimp only [sQ, tQ, bQ]) | (apply Wp.run; (dsimp only [List.map] <;> exact rfl); exact rfl) | (apply Wp.exit; dsimp only [sQ, tQ, bQ]; simp only [reduceIte]))
    (apply Run.freshE (he := (Enters.of Try.func32 rfl rfl)); (simp only [push_cast, seval] <;> first | exact rfl | assumption); (simp only [push_cast, seval] <;> (try simp (disch := omega) only [wI, wU, wC]) <;> exact rfl); (exact weighings_spec _ _); (focus (first | (simp only [push_cast, seval]; done) | trivial | (simp only [push_cast, seval]; trivial) | (simp; done))); (simp only [push_cast, seval] <;> (try simp (disch := omega) only [wI, wU, wC]) <;> exact rfl); (simp only [push_cast, seval] <;> (try simp (disch := omega) only [wI, wU, wC]) <;> exact rfl); dsimp only [S.put, optG])
    repeat (first | apply Wp.seq | apply Wp.block | (apply Run.next; (simp only [push_cast, seval] <;> (try simp (disch := omega) only [wI, wU, wC]) <;> exact rfl); (focus ((try simp only [push_cast, seval]) <;> exact sT))) | ((first | apply Run.nil | apply Wp.skip); dsimp only [sQ, tQ, bQ]) | (apply Wp.run; (dsimp only [List.map] <;> exact rfl); exact rfl) | (apply Wp.exit; dsimp only [sQ, tQ, bQ]; simp only [reduceIte]))
    refine Wp.range (by (simp only [push_cast, seval] <;> (try simp (disch := omega) only [wI, wU, wC]) <;> exact rfl)) (Enters.of Try.func43 rfl rfl) (N := 4) rfl (C := fun j M => j = none ∧ ∃ s, s = bestW ws load ∧ M = [⟨0, .row 1 [sv s.1]⟩, ⟨0, .row 1 [.int s.2]⟩, ⟨0, .row 1 [.ints ws]⟩, ⟨0, .row 1 [.int load]⟩]) ?_ ?_
    · refine Go.Vg.Spec.mono (weigh97 (Kw ws load _) 6 5 2 (fun s => rfl) (by omega) ws (fun s => rfl) ?_ (by omega) goW ?_ hb (by omega) 3 load (fun s => rfl) (by omega) (none, -1)) ?_
      · intro s k hk
        unfold Kw
        simp only [sv_ok, push_cast]
        omega
      · intro s sides used hsl
        refine YSpec.of_body (id := 5) (ver := 0) rfl rfl (by simp) ?_
        intro L
        obtain ⟨o, b⟩ := s
        unfold Kw wtail
        dsimp only [bindP, List.cons_append, List.nil_append]
        repeat (first | apply Wp.seq | apply Wp.block | (apply Run.next; (simp only [push_cast, seval] <;> (try simp (disch := omega) only [wI, wU, wC]) <;> exact rfl); (focus ((try simp only [push_cast, seval]) <;> exact sT))) | ((first | apply Run.nil | apply Wp.skip); dsimp only [sQ, tQ, bQ]) | (apply Wp.run; (dsimp only [List.map] <;> exact rfl); exact rfl) | (apply Wp.exit; dsimp only [sQ, tQ, bQ]; simp only [reduceIte]))
        refine ⟨rfl, rfl, ?_⟩
        dsimp only [List.set]
        have htk : sides.take ws.length = sides := by rw [← hsl]; simp
        cases o with
        | none =>
          repeat (first | apply Wp.seq | apply Wp.block | (apply Run.next; (simp only [push_cast, seval, hsl, htk, sv] <;> (try simp (disch := omega) only [wI, wU, wC]) <;> exact rfl); (focus ((try simp only [push_cast, seval, hsl, htk, sv]) <;> exact sT))) | ((first | apply Run.nil | apply Wp.skip); dsimp only [sQ, tQ, bQ]) | (apply Wp.run; (dsimp only [List.map] <;> exact rfl); exact rfl) | (apply Wp.exit; dsimp only [sQ, tQ, bQ]; simp only [reduceIte]))
          (apply Wp.cond; (simp only [push_cast, seval, hsl, htk, sv] <;> (try simp (disch := omega) only [wI, wU, wC]) <;> exact rfl))
          · intro h2
            repeat (first | apply Wp.seq | apply Wp.block | (apply Run.next; (simp only [push_cast, seval, hsl, htk, sv] <;> (try simp (disch := omega) only [wI, wU, wC]) <;> exact rfl); (focus ((try simp only [push_cast, seval, hsl, htk, sv]) <;> exact sT))) | ((first | apply Run.nil | apply Wp.skip); dsimp only [sQ, tQ, bQ]) | (apply Wp.run; (dsimp only [List.map] <;> exact rfl); exact rfl) | (apply Wp.exit; dsimp only [sQ, tQ, bQ]; simp only [reduceIte]))
            (apply Run.freshV (he := (Enters.of Try.func33 rfl rfl)); (simp only [push_cast, seval, hsl, htk, sv] <;> first | exact rfl | assumption); (simp only [push_cast, seval, hsl, htk, sv] <;> (try simp (disch := omega) only [wI, wU, wC]) <;> exact rfl); (exact clone_spec sides (by omega)); (focus (first | (simp only [push_cast, seval, hsl, htk, sv]; done) | trivial | (simp only [push_cast, seval, hsl, htk, sv]; trivial) | (simp; done) | (intro x hx; simp only [List.mem_cons, List.not_mem_nil, or_false] at hx; rcases hx with rfl | rfl <;> first | exact .inl trivial | exact .inr ⟨_, _, _, _, rfl⟩))); (focus (first | (simp only [push_cast, seval, hsl, htk, sv]; done) | trivial | (simp only [push_cast, seval, hsl, htk, sv]; trivial) | (simp; done) | (intro x hx; simp only [List.mem_cons, List.not_mem_nil, or_false] at hx; rcases hx with rfl | rfl <;> first | exact .inl trivial | exact .inr ⟨_, _, _, _, rfl⟩))); (focus (first | (simp only [push_cast, seval, hsl, htk, sv]; done) | trivial | (simp only [push_cast, seval, hsl, htk, sv]; trivial) | (simp; done) | (intro x hx; simp only [List.mem_cons, List.not_mem_nil, or_false] at hx; rcases hx with rfl | rfl <;> first | exact .inl trivial | exact .inr ⟨_, _, _, _, rfl⟩))); (dsimp only [S.put, optG]; try dsimp only [AV.shift, List.length_nil, List.length_cons, List.nil_append, List.cons_append, Nat.zero_add, Nat.add_zero, Nat.reduceAdd]))
            (apply Run.freeze 26; (simp only [push_cast, seval, hsl, htk, sv] <;> (try simp (disch := omega) only [wI, wU, wC]) <;> exact rfl); (simp only [push_cast, seval, hsl, htk, sv] <;> (try simp (disch := omega) only [wI, wU, wC]) <;> exact rfl); (focus (try simp only [push_cast, seval, hsl, htk, sv]); (try (exact sT))); (focus (exact sT)); (simp only [push_cast, seval, hsl, htk, sv] <;> (try simp (disch := omega) only [wI, wU, wC]) <;> exact rfl); (simp only [push_cast, seval, hsl, htk, sv] <;> (try simp (disch := omega) only [wI, wU, wC]) <;> exact rfl))
            repeat (first | apply Wp.seq | apply Wp.block | (apply Run.next; (simp only [push_cast, seval, hsl, htk, sv] <;> (try simp (disch := omega) only [wI, wU, wC]) <;> exact rfl); (focus ((try simp only [push_cast, seval, hsl, htk, sv]) <;> exact sT))) | ((first | apply Run.nil | apply Wp.skip); dsimp only [sQ, tQ, bQ]) | (apply Wp.run; (dsimp only [List.map] <;> exact rfl); exact rfl) | (apply Wp.exit; dsimp only [sQ, tQ, bQ]; simp only [reduceIte]))
            refine ⟨rfl, ?_, rfl, ?_⟩
            · simp only [push_cast, seval, hsl, htk, sv]
            · simp only [Bool.or_eq_true, decide_eq_true_eq] at h2
              unfold goW
              rw [if_pos h2]; rfl
          · intro h2
            repeat (first | apply Wp.seq | apply Wp.block | (apply Run.next; (simp only [push_cast, seval, hsl, htk, sv] <;> (try simp (disch := omega) only [wI, wU, wC]) <;> exact rfl); (focus ((try simp only [push_cast, seval, hsl, htk, sv]) <;> exact sT))) | ((first | apply Run.nil | apply Wp.skip); dsimp only [sQ, tQ, bQ]) | (apply Wp.run; (dsimp only [List.map] <;> exact rfl); exact rfl) | (apply Wp.exit; dsimp only [sQ, tQ, bQ]; simp only [reduceIte]))
            refine ⟨rfl, ?_, rfl, ?_⟩
            · simp only [push_cast, seval, hsl, htk, sv]
            · simp only [Bool.or_eq_false_iff, decide_eq_false_iff_not] at h2
              unfold goW
              rw [if_neg (by simp only; omega)]; rfl
        | some l =>
          repeat (first | apply Wp.seq | apply Wp.block | (apply Run.next; (simp only [push_cast, seval, hsl, htk, sv] <;> (try simp (disch := omega) only [wI, wU, wC]) <;> exact rfl); (focus ((try simp only [push_cast, seval, hsl, htk, sv]) <;> exact sT))) | ((first | apply Run.nil | apply Wp.skip); dsimp only [sQ, tQ, bQ]) | (apply Wp.run; (dsimp only [List.map] <;> exact rfl); exact rfl) | (apply Wp.exit; dsimp only [sQ, tQ, bQ]; simp only [reduceIte]))
          (apply Wp.cond; (simp only [push_cast, seval, hsl, htk, sv] <;> (try simp (disch := omega) only [wI, wU, wC]) <;> exact rfl))
          · intro h2
            repeat (first | apply Wp.seq | apply Wp.block | (apply Run.next; (simp only [push_cast, seval, hsl, htk, sv] <;> (try simp (disch := omega) only [wI, wU, wC]) <;> exact rfl); (focus ((try simp only [push_cast, seval, hsl, htk, sv]) <;> exact sT))) | ((first | apply Run.nil | apply Wp.skip); dsimp only [sQ, tQ, bQ]) | (apply Wp.run; (dsimp only [List.map] <;> exact rfl); exact rfl) | (apply Wp.exit; dsimp only [sQ, tQ, bQ]; simp only [reduceIte]))
            (apply Run.freshV (he := (Enters.of Try.func33 rfl rfl)); (simp only [push_cast, seval, hsl, htk, sv] <;> first | exact rfl | assumption); (simp only [push_cast, seval, hsl, htk, sv] <;> (try simp (disch := omega) only [wI, wU, wC]) <;> exact rfl); (exact clone_spec sides (by omega)); (focus (first | (simp only [push_cast, seval, hsl, htk, sv]; done) | trivial | (simp only [push_cast, seval, hsl, htk, sv]; trivial) | (simp; done) | (intro x hx; simp only [List.mem_cons, List.not_mem_nil, or_false] at hx; rcases hx with rfl | rfl <;> first | exact .inl trivial | exact .inr ⟨_, _, _, _, rfl⟩))); (focus (first | (simp only [push_cast, seval, hsl, htk, sv]; done) | trivial | (simp only [push_cast, seval, hsl, htk, sv]; trivial) | (simp; done) | (intro x hx; simp only [List.mem_cons, List.not_mem_nil, or_false] at hx; rcases hx with rfl | rfl <;> first | exact .inl trivial | exact .inr ⟨_, _, _, _, rfl⟩))); (focus (first | (simp only [push_cast, seval, hsl, htk, sv]; done) | trivial | (simp only [push_cast, seval, hsl, htk, sv]; trivial) | (simp; done) | (intro x hx; simp only [List.mem_cons, List.not_mem_nil, or_false] at hx; rcases hx with rfl | rfl <;> first | exact .inl trivial | exact .inr ⟨_, _, _, _, rfl⟩))); (dsimp only [S.put, optG]; try dsimp only [AV.shift, List.length_nil, List.length_cons, List.nil_append, List.cons_append, Nat.zero_add, Nat.add_zero, Nat.reduceAdd]))
            (apply Run.freeze 26; (simp only [push_cast, seval, hsl, htk, sv] <;> (try simp (disch := omega) only [wI, wU, wC]) <;> exact rfl); (simp only [push_cast, seval, hsl, htk, sv] <;> (try simp (disch := omega) only [wI, wU, wC]) <;> exact rfl); (focus (try simp only [push_cast, seval, hsl, htk, sv]); (try (exact sT))); (focus (exact sT)); (simp only [push_cast, seval, hsl, htk, sv] <;> (try simp (disch := omega) only [wI, wU, wC]) <;> exact rfl); (simp only [push_cast, seval, hsl, htk, sv] <;> (try simp (disch := omega) only [wI, wU, wC]) <;> exact rfl))
            repeat (first | apply Wp.seq | apply Wp.block | (apply Run.next; (simp only [push_cast, seval, hsl, htk, sv] <;> (try simp (disch := omega) only [wI, wU, wC]) <;> exact rfl); (focus ((try simp only [push_cast, seval, hsl, htk, sv]) <;> exact sT))) | ((first | apply Run.nil | apply Wp.skip); dsimp only [sQ, tQ, bQ]) | (apply Wp.run; (dsimp only [List.map] <;> exact rfl); exact rfl) | (apply Wp.exit; dsimp only [sQ, tQ, bQ]; simp only [reduceIte]))
            refine ⟨rfl, ?_, rfl, ?_⟩
            · simp only [push_cast, seval, hsl, htk, sv]
            · simp only [Bool.or_eq_true, decide_eq_true_eq] at h2
              unfold goW
              rw [if_pos h2]; rfl
          · intro h2
            repeat (first | apply Wp.seq | apply Wp.block | (apply Run.next; (simp only [push_cast, seval, hsl, htk, sv] <;> (try simp (disch := omega) only [wI, wU, wC]) <;> exact rfl); (focus ((try simp only [push_cast, seval, hsl, htk, sv]) <;> exact sT))) | ((first | apply Run.nil | apply Wp.skip); dsimp only [sQ, tQ, bQ]) | (apply Wp.run; (dsimp only [List.map] <;> exact rfl); exact rfl) | (apply Wp.exit; dsimp only [sQ, tQ, bQ]; simp only [reduceIte]))
            refine ⟨rfl, ?_, rfl, ?_⟩
            · simp only [push_cast, seval, hsl, htk, sv]
            · simp only [Bool.or_eq_false_iff, decide_eq_false_iff_not] at h2
              unfold goW
              rw [if_neg (by simp only; omega)]; rfl
      · rintro x m' rfl
        exact ⟨_, none, ⟨rfl, _, rfl, rfl⟩, rfl, rfl⟩
    · rintro M j ⟨rfl, ⟨o, b⟩, hs, rfl⟩
      dsimp only [bQ, sQ, List.cons_append, List.nil_append]
      repeat (first | apply Wp.seq | apply Wp.block | (apply Run.next; (simp only [push_cast, seval, sv] <;> (try simp (disch := omega) only [wI, wU, wC]) <;> exact rfl); (focus ((try simp only [push_cast, seval, sv]) <;> exact sT))) | ((first | apply Run.nil | apply Wp.skip); dsimp only [sQ, tQ, bQ]) | (apply Wp.run; (dsimp only [List.map] <;> exact rfl); exact rfl) | (apply Wp.exit; dsimp only [sQ, tQ, bQ]; simp only [reduceIte]))
      (apply Wp.cond; (simp only [push_cast, seval, sv] <;> (try simp (disch := omega) only [wI, wU, wC]) <;> exact rfl))
      · (intro hc; try simp only [decide_eq_true_eq, decide_eq_false_iff_not, Bool.and_eq_true, Bool.or_eq_true, Bool.not_eq_true, Bool.not_eq_false, Bool.not_eq_true', Bool.not_eq_false', Bool.and_eq_false_iff, Bool.or_eq_false_iff, Int.not_lt, Int.not_le, Int.ofNat_lt, Int.ofNat_le] at hc)
        repeat (first | apply Wp.seq | apply Wp.block | (apply Run.next; (simp only [push_cast, seval, sv] <;> (try simp (disch := omega) only [wI, wU, wC]) <;> exact rfl); (focus ((try simp only [push_cast, seval, sv]) <;> exact sT))) | ((first | apply Run.nil | apply Wp.skip); dsimp only [sQ, tQ, bQ]) | (apply Wp.run; (dsimp only [List.map] <;> exact rfl); exact rfl) | (apply Wp.exit; dsimp only [sQ, tQ, bQ]; simp only [reduceIte]))
        (apply Wp.ret; (try dsimp only [sQ, tQ, bQ]); apply leaveM; (focus (first | (simp only [push_cast, seval, sv]; done) | trivial | (simp only [push_cast, seval, sv]; trivial) | (simp; done))); (focus (first | (simp only [push_cast, seval, sv]; done) | trivial | (simp only [push_cast, seval, sv]; trivial) | (simp; done))); (simp only [push_cast, seval, sv] <;> (try simp (disch := omega) only [wI, wU, wC]) <;> exact rfl); (focus (first | (simp only [push_cast, seval, sv]; done) | trivial | (simp only [push_cast, seval, sv]; trivial) | (simp; done))); (focus (first | (simp only [push_cast, seval, sv]; done) | trivial | (simp only [push_cast, seval, sv]; trivial) | (simp; done))); (focus (first | (simp only [push_cast, seval, sv]; done) | trivial | (simp only [push_cast, seval, sv]; trivial) | (simp; done))); (try simp only [push_cast, seval, sv]))
        simp [weighV, hwd, ← hs, hc]
      · (intro hc; try simp only [decide_eq_true_eq, decide_eq_false_iff_not, Bool.and_eq_true, Bool.or_eq_true, Bool.not_eq_true, Bool.not_eq_false, Bool.not_eq_true', Bool.not_eq_false', Bool.and_eq_false_iff, Bool.or_eq_false_iff, Int.not_lt, Int.not_le, Int.ofNat_lt, Int.ofNat_le] at hc)
        cases o with
        | none =>
          repeat (first | apply Wp.seq | apply Wp.block | (apply Run.next; (simp only [push_cast, seval, sv] <;> (try simp (disch := omega) only [wI, wU, wC]) <;> exact rfl); (focus ((try simp only [push_cast, seval, sv]) <;> exact sT))) | ((first | apply Run.nil | apply Wp.skip); dsimp only [sQ, tQ, bQ]) | (apply Wp.run; (dsimp only [List.map] <;> exact rfl); exact rfl) | (apply Wp.exit; dsimp only [sQ, tQ, bQ]; simp only [reduceIte]))
          (apply Wp.ret; (try dsimp only [sQ, tQ, bQ]); apply leaveM; (focus (first | (simp only [push_cast, seval, sv]; done) | trivial | (simp only [push_cast, seval, sv]; trivial) | (simp; done))); (focus (first | (simp only [push_cast, seval, sv]; done) | trivial | (simp only [push_cast, seval, sv]; trivial) | (simp; done))); (simp only [push_cast, seval, sv] <;> (try simp (disch := omega) only [wI, wU, wC]) <;> exact rfl); (focus (first | (simp only [push_cast, seval, sv]; done) | trivial | (simp only [push_cast, seval, sv]; trivial) | (simp; done))); (focus (first | (simp only [push_cast, seval, sv]; done) | trivial | (simp only [push_cast, seval, sv]; trivial) | (simp; done))); (focus (first | (simp only [push_cast, seval, sv]; done) | trivial | (simp only [push_cast, seval, sv]; trivial) | (simp; done))); (try simp only [push_cast, seval, sv]))
          simp only [weighV, hwd, ← hs, sv, if_true, if_neg (by omega : ¬ b < 0)]
        | some l =>
          repeat (first | apply Wp.seq | apply Wp.block | (apply Run.next; (simp only [push_cast, seval, sv] <;> (try simp (disch := omega) only [wI, wU, wC]) <;> exact rfl); (focus ((try simp only [push_cast, seval, sv]) <;> exact sT))) | ((first | apply Run.nil | apply Wp.skip); dsimp only [sQ, tQ, bQ]) | (apply Wp.run; (dsimp only [List.map] <;> exact rfl); exact rfl) | (apply Wp.exit; dsimp only [sQ, tQ, bQ]; simp only [reduceIte]))
          (apply Wp.ret; (try dsimp only [sQ, tQ, bQ]); apply leaveM; (focus (first | (simp only [push_cast, seval, sv]; done) | trivial | (simp only [push_cast, seval, sv]; trivial) | (simp; done))); (focus (first | (simp only [push_cast, seval, sv]; done) | trivial | (simp only [push_cast, seval, sv]; trivial) | (simp; done))); (simp only [push_cast, seval, sv] <;> (try simp (disch := omega) only [wI, wU, wC]) <;> exact rfl); (focus (first | (simp only [push_cast, seval, sv]; done) | trivial | (simp only [push_cast, seval, sv]; trivial) | (simp; done))); (focus (first | (simp only [push_cast, seval, sv]; done) | trivial | (simp only [push_cast, seval, sv]; trivial) | (simp; done))); (focus (first | (simp only [push_cast, seval, sv]; done) | trivial | (simp only [push_cast, seval, sv]; trivial) | (simp; done))); (try simp only [push_cast, seval, sv]))
          simp only [weighV, hwd, ← hs, sv, if_true, if_neg (by omega : ¬ b < 0)]
end Go.Proofs.Try
namespace Go.Proofs.Try
open Go.Vg

theorem works_shift : shiftV ⟨#[107, 101, 121, 32, 116, 111, 32, 114, 101, 100]⟩ 3 = (⟨#[110, 104, 98, 32, 119, 114, 32, 117, 104, 103]⟩, 0) := by decide
theorem works_weigh : bestW [1, 3, 9] 5 = (some [-1, -1, 1], 3) := by decide
theorem works_next : nextV [1, 4, 9, 16] = (25, 2, 0) := by decide

theorem works_c1 : Pure Try.prog 19 [.str ⟨#[107, 101, 121, 32, 116, 111, 32, 114, 101, 100]⟩, .int 3] (.tup [.str ⟨#[110, 104, 98, 32, 119, 114, 32, 117, 104, 103]⟩, .int 0]) := by
  have := shiftV_pure ⟨#[107, 101, 121, 32, 116, 111, 32, 114, 101, 100]⟩ 3
  rw [works_shift] at this; exact this
theorem works_c2 : Pure Try.prog 20 [.lst 1 [.int 1, .int 3, .int 9], .int 5] (.tup [.lst 1 [.int (-1), .int (-1), .int 1], .int 0]) := by
  have := weigh_pure [1, 3, 9] 5
  have e : weighV [1, 3, 9] 5 = (.ints [-1, -1, 1], 0) := by
    unfold weighV
    rw [if_pos (by decide), works_weigh]; rfl
  rw [e] at this; exact this
theorem works_c3 : Pure Try.prog 21 [.lst 1 [.int 1, .int 4, .int 9, .int 16]] (.tup [.int 25, .int 2, .int 0]) := by
  have := next_pure [1, 4, 9, 16]
  rw [works_next] at this; exact this
theorem works_c4 : Pure Try.prog 22 [.lst 1 [.int (-1), .int (-1), .int 1], .lst 1 [.int (-1), .int (-1), .int 1]] (.bool true) := by
  have := sameInts_pure [-1, -1, 1] [-1, -1, 1]
  exact this

theorem works_pure : Pure Try.prog 8 [] (.bool true) := by
  (refine Spec.of_body Try.func8 rfl (by rw [Try.ntmps8]; simp) 0 (by simp) ?_; rw [Try.results8, Try.ntmps8]; simp only [entry, zipArgs, Nat.reduceAdd])
  repeat (first | apply Wp.seq | apply Wp.block | (apply Run.next; (simp only [push_cast, seval] <;> (try simp (disch := omega) only [wI, wU, wC]) <;> exact rfl); (focus ((try simp only [push_cast, seval]) <;> exact sT))) | ((first | apply Run.nil | apply Wp.skip); dsimp only [sQ, tQ, bQ]) | (apply Wp.run; (dsimp only [List.map] <;> exact rfl); exact rfl) | (apply Wp.exit; dsimp only [sQ, tQ, bQ]; simp only [reduceIte]))
  (apply Run.pureP; (simp only [push_cast, seval] <;> (try simp (disch := omega) only [wI, wU, wC]) <;> exact rfl); (exact (Enters.of Try.func19 rfl rfl)); (exact works_c1); (focus (simp only [push_cast, seval] <;> first | trivial | assumption | (refine ⟨?_, ?_⟩ <;> assumption) | (simp; done))); (try dsimp only [putA, optG]))
  repeat (first | apply Wp.seq | apply Wp.block | (apply Run.next; (simp only [push_cast, seval] <;> (try simp (disch := omega) only [wI, wU, wC]) <;> exact rfl); (focus ((try simp only [push_cast, seval]) <;> exact sT))) | ((first | apply Run.nil | apply Wp.skip); dsimp only [sQ, tQ, bQ]) | (apply Wp.run; (dsimp only [List.map] <;> exact rfl); exact rfl) | (apply Wp.exit; dsimp only [sQ, tQ, bQ]; simp only [reduceIte]))
  (apply Run.pureFP; (simp only [push_cast, seval] <;> (try simp (disch := omega) only [wI, wU, wC]) <;> exact rfl); (exact (Enters.of Try.func20 rfl rfl)); (exact works_c2); (focus (simp only [push_cast, seval] <;> first | trivial | assumption | (refine ⟨?_, ?_⟩ <;> assumption) | (simp; done))); (try dsimp only [putA, optG]))
  repeat (first | apply Wp.seq | apply Wp.block | (apply Run.next; (simp only [push_cast, seval] <;> (try simp (disch := omega) only [wI, wU, wC]) <;> exact rfl); (focus ((try simp only [push_cast, seval]) <;> exact sT))) | ((first | apply Run.nil | apply Wp.skip); dsimp only [sQ, tQ, bQ]) | (apply Wp.run; (dsimp only [List.map] <;> exact rfl); exact rfl) | (apply Wp.exit; dsimp only [sQ, tQ, bQ]; simp only [reduceIte]))
  (apply Run.pureFP; (simp only [push_cast, seval] <;> (try simp (disch := omega) only [wI, wU, wC]) <;> exact rfl); (exact (Enters.of Try.func21 rfl rfl)); (exact works_c3); (focus (simp only [push_cast, seval] <;> first | trivial | assumption | (refine ⟨?_, ?_⟩ <;> assumption) | (simp; done))); (try dsimp only [putA, optG]))
  repeat (first | apply Wp.seq | apply Wp.block | (apply Run.next; (simp only [push_cast, seval] <;> (try simp (disch := omega) only [wI, wU, wC]) <;> exact rfl); (focus ((try simp only [push_cast, seval]) <;> exact sT))) | ((first | apply Run.nil | apply Wp.skip); dsimp only [sQ, tQ, bQ]) | (apply Wp.run; (dsimp only [List.map] <;> exact rfl); exact rfl) | (apply Wp.exit; dsimp only [sQ, tQ, bQ]; simp only [reduceIte]))
  (try (apply Run.gtrue; (simp only [push_cast, seval] <;> (try simp (disch := omega) only [wI, wU, wC]) <;> exact rfl); (simp only [push_cast, seval] <;> (try simp (disch := omega) only [wI, wU, wC]) <;> exact rfl)))
  repeat (first | apply Wp.seq | apply Wp.block | (apply Run.next; (simp only [push_cast, seval] <;> (try simp (disch := omega) only [wI, wU, wC]) <;> exact rfl); (focus ((try simp only [push_cast, seval]) <;> exact sT))) | ((first | apply Run.nil | apply Wp.skip); dsimp only [sQ, tQ, bQ]) | (apply Wp.run; (dsimp only [List.map] <;> exact rfl); exact rfl) | (apply Wp.exit; dsimp only [sQ, tQ, bQ]; simp only [reduceIte]))
  (try (apply Run.gtrue; (simp only [push_cast, seval] <;> (try simp (disch := omega) only [wI, wU, wC]) <;> exact rfl); (simp only [push_cast, seval] <;> (try simp (disch := omega) only [wI, wU, wC]) <;> exact rfl)))
  (apply Run.pureP; (simp only [push_cast, seval] <;> (try simp (disch := omega) only [wI, wU, wC]) <;> exact rfl); (exact (Enters.of Try.func22 rfl rfl)); (exact works_c4); (focus (simp only [push_cast, seval] <;> first | trivial | assumption | (refine ⟨?_, ?_⟩ <;> assumption) | (simp; done))); (try dsimp only [putA, optG]))
  repeat (first | apply Wp.seq | apply Wp.block | (apply Run.next; (simp only [push_cast, seval] <;> (try simp (disch := omega) only [wI, wU, wC]) <;> exact rfl); (focus ((try simp only [push_cast, seval]) <;> exact sT))) | ((first | apply Run.nil | apply Wp.skip); dsimp only [sQ, tQ, bQ]) | (apply Wp.run; (dsimp only [List.map] <;> exact rfl); exact rfl) | (apply Wp.exit; dsimp only [sQ, tQ, bQ]; simp only [reduceIte]))
  (apply Wp.ret; (try dsimp only [sQ, tQ, bQ]); apply leave0; exact rfl; (simp only [push_cast, seval] <;> (try simp (disch := omega) only [wI, wU, wC]) <;> exact rfl); all_goals (try simp only [push_cast, seval]); (try rfl))
end Go.Proofs.Try
namespace Go.Proofs
open Go.Shelf
open Go.RowKit Go.Lib in
open Go.RowKit Go.Lib in
def Try.laysGw17_ren : Go.Shelf.Ren := ⟨fun | 17 => 16 | 15 => 28 | 20 => 39 | n => n, fun | 9 => 9 | 23 => 43 | 4 => 4 | 3 => 3 | 0 => 0 | 21 => 21 | n => n, fun | n => n⟩
theorem Try.laysGw17 : Go.Proofs.LaysGw.n17 Try.prog Try.laysGw17_ren := {
  mixed := by kernel_rfl
  f15 := Try.func28.trans (congrArg some (by kernel_rfl))
  f17 := Try.func16.trans (congrArg some (by kernel_rfl))
  f20 := Try.func39.trans (congrArg some (by kernel_rfl))
  t0 := Try.underlying0
  a0 := Try.isAgg0
  z0 := Try.sizeOf0
  v0 := Try.zeroValue0
  i0 := by kernel_rfl
  t3 := Try.underlying3
  a3 := Try.isAgg3
  z3 := Try.sizeOf3
  v3 := Try.zeroValue3
  i3 := by kernel_rfl
  t4 := Try.underlying4
  a4 := Try.isAgg4
  z4 := Try.sizeOf4
  v4 := Try.zeroValue4
  i4 := by kernel_rfl
  t9 := Try.underlying9
  a9 := Try.isAgg9
  z9 := Try.sizeOf9
  v9 := Try.zeroValue9
  i9 := by kernel_rfl
  t21 := Try.underlying21
  a21 := Try.isAgg21
  z21 := Try.sizeOf21
  v21 := Try.zeroValue21
  i21 := by kernel_rfl
  t23 := Try.underlying43
  a23 := Try.isAgg43
  z23 := Try.sizeOf43
  v23 := Try.zeroValue43
  i23 := by kernel_rfl }
open Go.RowKit Go.Lib in
open Go.RowKit Go.Lib in
open Go.RowKit Go.Lib in
open Go.RowKit Go.Lib in
theorem Try.strings_ContainsFunc_grows (g : Nat) (lb : Array Value) (eg : ∀ args w, (callFunc g args).run Try.prog w = .ok (.enter g args) w) (p : Nat → Bool) (s : ByteArray) (w : World) (hp : PredGrows Try.prog g lb p w) :
    Calls Try.prog 16 #[.string s, .func (.func g) #[] lb] w fun e w' => e = .returned (.bool (decide (0 ≤ Lib.idxFunc p true s))) ∧ Below w.heap.size w w' := Any.strings_ContainsFunc_grows Try.laysGw17 g lb eg p s w hp
end Go.Proofs
set_option maxHeartbeats 8000000
namespace Go.Proofs.Try
open Go.Vg

theorem containsFuncR (g : FuncId) (p : Nat → Bool) (hg : Enters Try.prog g) (hp : ∀ x : Nat, x ≤ 1114111 → Pure Try.prog g [.val (.int .i32 x)] (.bool (p x))) (s : ByteArray) :
    Pure Try.prog 16 [.str s, .clo g []] (.bool (decide (0 ≤ Lib.idxFunc p true s))) := by
  rintro X w ρ _ hi ⟨v1, _, rfl, h1, v2, _, rfl, h2, rfl⟩
  have e1 : v1 = .string s := h1
  subst e1
  have hρ : ρ = [] := List.eq_nil_of_length_eq_zero (by rw [hi.len]; rfl)
  subst hρ
  obtain ⟨vs, rfl, h3⟩ := h2
  have hv0 : vs = [] := h3
  subst hv0
  refine (Go.Proofs.Try.strings_ContainsFunc_grows g #[] hg p s w ?_).mono ?_
  · intro W x hx hb
    have hW : Gd W [] := hi.gd.mono fun b hlt => hb.block b hlt
    have h := hp x hx (fun _ => False) W [] [.int .i32 x] (Inv.empty (fun _ h => h.elim) hW) ⟨_, _, rfl, rfl, rfl⟩
    refine Calls.mono h ?_
    rintro e w' ⟨v, x', m', ρ', rfl, ⟨rfl, rfl⟩, hv, hi', ht⟩
    have hρ : ρ' = [] := List.eq_nil_of_length_eq_zero (by rw [hi'.len]; rfl)
    subst hρ
    have e2 : v = .bool (p x) := hv
    subst e2
    exact ⟨rfl, ht.below⟩
  · rintro e w' ⟨rfl, hb⟩
    have T : Tr w [] w' [] := ⟨hb.os, hb.tape, hb.output, hb.size, fun i r h => by simp at h, fun b _ hlt => ⟨fun r hr => (by cases hr), hb.block b hlt⟩⟩
    exact ⟨_, _, [], [], rfl, ⟨rfl, rfl⟩, rfl, hi.keep T, T⟩
/-! when no rune of a text is outside of some ASCII letters: all bytes are inside -/
theorem bszL (s : ByteArray) : s.data.toList.length = s.size := Array.length_toList
theorem dec_lo {s : ByteArray} {i : Nat} (h : (s.get! i).toNat < 128) : Utf8.decode s i = ((s.get! i).toNat, 1) := by
  unfold Utf8.decode
  simp only [Nat.add_zero]
  rw [if_pos h]
theorem dec_hi {s : ByteArray} {i : Nat} (h : ¬ (s.get! i).toNat < 128) : 128 ≤ (Utf8.decode s i).1 := by
  unfold Utf8.decode
  simp only [Nat.add_zero]
  rw [if_neg h]
  split
  · split
    · rename_i q; exact q
    · decide
  · split
    · split
      · rename_i q
        simp only [ge_iff_le, Bool.and_eq_true, decide_eq_true_eq] at q
        omega
      · decide
    · split
      · split
        · rename_i q
          simp only [ge_iff_le, Bool.and_eq_true, decide_eq_true_eq] at q
          omega
        · decide
      · decide
theorem idxFrom_any (p : Nat → Bool) (s : ByteArray) (hp : ∀ x, 128 ≤ x → p x = true) : ∀ f pos, s.size ≤ pos + f → (decide (0 ≤ Lib.idxFuncFrom p true s f pos)) = (s.data.toList.drop pos).any fun b => p b.toNat
  | 0, pos, h => by
    rw [List.drop_eq_nil_of_le (by rw [bszL]; omega)]
    rfl
  | f + 1, pos, h => by
    unfold Lib.idxFuncFrom
    by_cases hlt : pos < s.size
    · have hl : pos < s.data.toList.length := by rw [bszL]; exact hlt
      have hg : s.get! pos = s.data.toList[pos] := by
        have hd : pos < s.data.size := hlt
        show s.data[pos]! = _
        rw [getElem!_pos s.data pos hd]
        simp
      rw [if_pos hlt, List.drop_eq_getElem_cons hl, List.any_cons, ← hg]
      by_cases hb : (s.get! pos).toNat < 128
      · rw [dec_lo hb]
        dsimp only
        cases hpb : p (s.get! pos).toNat with
        | true => rw [if_pos rfl]; simp
        | false =>
          rw [if_neg (by simp), idxFrom_any p s hp f (pos + 1) (by omega)]
          simp
      · rw [hp _ (dec_hi hb), if_pos rfl, hp _ (by omega)]
        simp
    · rw [if_neg hlt, List.drop_eq_nil_of_le (by rw [bszL]; omega)]
      rfl
theorem containsFuncB (g : FuncId) (p : Nat → Bool) (hg : Enters Try.prog g) (hp : ∀ x : Nat, x ≤ 1114111 → Pure Try.prog g [.val (.int .i32 x)] (.bool (p x))) (h128 : ∀ x, 128 ≤ x → p x = true) (s : ByteArray) :
    Pure Try.prog 16 [.str s, .clo g []] (.bool (s.data.toList.any fun b => p b.toNat)) := by
  have h := containsFuncR g p hg hp s
  unfold Lib.idxFunc at h
  rw [idxFrom_any p s h128 s.size 0 (by omega), List.drop_zero] at h
  exact h
theorem rletter_pure (c : UInt8) : Pure Try.prog 29 [AV.byte c] (.bool (letter c)) := by
  unfold AV.byte
  (refine Spec.of_body Try.func29 rfl (by rw [Try.ntmps29]; simp) 0 (by simp) ?_; rw [Try.results29, Try.ntmps29]; simp only [entry, zipArgs, Nat.reduceAdd])
  repeat (first | apply Wp.seq | apply Wp.block | (apply Run.next; (simp only [push_cast, seval] <;> (try simp (disch := omega) only [wI, wU, wC]) <;> exact rfl); (focus ((try simp only [push_cast, seval]) <;> exact sT))) | ((first | apply Run.nil | apply Wp.skip); dsimp only [sQ, tQ, bQ]) | (apply Wp.run; (dsimp only [List.map] <;> exact rfl); exact rfl) | (apply Wp.exit; dsimp only [sQ, tQ, bQ]; simp only [reduceIte]))
  (apply Wp.ret; (try dsimp only [sQ, tQ, bQ]); apply leave0; exact rfl; (simp only [push_cast, seval] <;> (try simp (disch := omega) only [wI, wU, wC]) <;> exact rfl); all_goals (try simp only [push_cast, seval]); (try rfl))
def isL (b : ByteArray) : Bool := b.data.toList.all letter
theorem byteAtN (b : ByteArray) (k : Nat) : byteAt b (k : Int) = b.data.toList.getD k 0 := by unfold byteAt; rw [Int.toNat_natCast]
theorem all_getD {l : List UInt8} {p : UInt8 → Bool} (h : ∀ j, j < l.length → p (l.getD j 0) = true) : l.all p = true := by
  rw [List.all_eq_true]
  intro x hx
  obtain ⟨i, hi, rfl⟩ := List.getElem_of_mem hx
  simpa [hi] using h i hi
theorem rletters_pure (b : ByteArray) (hb : b.size ≤ 1000) : Pure Try.prog 18 [.str b] (.bool (isL b)) := by
  have hbl : b.data.toList.length = b.size := by simp
  unfold isL
  have hat := byteAtN b
  generalize hl : b.data.toList = l at hbl hat
  (refine Spec.of_body Try.func18 rfl (by rw [Try.ntmps18]; simp) 0 (by simp) ?_; rw [Try.results18, Try.ntmps18]; simp only [entry, zipArgs, Nat.reduceAdd])
  repeat (first | apply Wp.seq | apply Wp.block | (apply Run.next; (simp only [push_cast, seval] <;> (try simp (disch := omega) only [wI, wU, wC]) <;> exact rfl); (focus ((try simp only [push_cast, seval]) <;> exact sT))) | ((first | apply Run.nil | apply Wp.skip); dsimp only [sQ, tQ, bQ]) | (apply Wp.run; (dsimp only [List.map] <;> exact rfl); exact rfl) | (apply Wp.exit; dsimp only [sQ, tQ, bQ]; simp only [reduceIte]))
  refine Wp.loop (fun k : Nat => { t := [(0, .str b), (3, .int k)], m := [], n := 15 }) (fun k => k ≤ b.size ∧ ∀ j, j < k → letter (l.getD j 0) = true) (fun k => b.size - k) 0 ?_ ?_ ?_
  · (refine Le.of ?_ ?_ rfl rfl <;> (try simp only [push_cast, seval]) <;> (try (with_reducible rfl)))
  · simp
  · rintro k ⟨hk1, hk2⟩
    have hak := hat k
    generalize hc0 : l.getD k 0 = c at hak
    have hlt := rletter_pure c
    by_cases hkb : k < b.size
    · have e1 : decide ((k : Int) < (b.size : Int)) = true := decide_eq_true (by omega)
      cases hlc : letter c with
      | true =>
        rw [hlc] at hlt
        repeat (first | apply Wp.seq | apply Wp.block | (apply Run.next; (simp only [push_cast, seval, e1, hak] <;> (try simp (disch := omega) only [wI, wU, wC]) <;> exact rfl); (focus ((try simp only [push_cast, seval, e1, hak]) <;> exact sT))) | ((first | apply Run.nil | apply Wp.skip); dsimp only [sQ, tQ, bQ]) | (apply Wp.run; (dsimp only [List.map] <;> exact rfl); exact rfl) | (apply Wp.exit; dsimp only [sQ, tQ, bQ]; simp only [reduceIte]) | (apply Run.gtrue; (simp only [push_cast, seval, e1, hak] <;> (try simp (disch := omega) only [wI, wU, wC]) <;> exact rfl); (simp only [push_cast, seval, e1, hak] <;> (try simp (disch := omega) only [wI, wU, wC]) <;> exact rfl)) | (apply Run.gfalse (.bool false); (simp only [push_cast, seval, e1, hak] <;> (try simp (disch := omega) only [wI, wU, wC]) <;> exact rfl); dsimp only [S.put, optG]) | (apply Wp.condT; (simp only [push_cast, seval, e1, hak] <;> (try simp (disch := omega) only [wI, wU, wC]) <;> exact rfl)) | (apply Wp.condF; (simp only [push_cast, seval, e1, hak] <;> (try simp (disch := omega) only [wI, wU, wC]) <;> exact rfl)))
        (apply Run.pureP; (simp only [push_cast, seval, e1, hak] <;> (try simp (disch := omega) only [wI, wU, wC]) <;> exact rfl); (exact (Enters.of Try.func29 rfl rfl)); (exact hlt); (focus (simp only [push_cast, seval, e1, hak] <;> first | trivial | assumption | (refine ⟨?_, ?_⟩ <;> assumption) | (simp; done))); (try dsimp only [putA, optG]))
        repeat (first | apply Wp.seq | apply Wp.block | (apply Run.next; (simp only [push_cast, seval, e1, hak] <;> (try simp (disch := omega) only [wI, wU, wC]) <;> exact rfl); (focus ((try simp only [push_cast, seval, e1, hak]) <;> exact sT))) | ((first | apply Run.nil | apply Wp.skip); dsimp only [sQ, tQ, bQ]) | (apply Wp.run; (dsimp only [List.map] <;> exact rfl); exact rfl) | (apply Wp.exit; dsimp only [sQ, tQ, bQ]; simp only [reduceIte]) | (apply Run.gtrue; (simp only [push_cast, seval, e1, hak] <;> (try simp (disch := omega) only [wI, wU, wC]) <;> exact rfl); (simp only [push_cast, seval, e1, hak] <;> (try simp (disch := omega) only [wI, wU, wC]) <;> exact rfl)) | (apply Run.gfalse (.bool false); (simp only [push_cast, seval, e1, hak] <;> (try simp (disch := omega) only [wI, wU, wC]) <;> exact rfl); dsimp only [S.put, optG]) | (apply Wp.condT; (simp only [push_cast, seval, e1, hak] <;> (try simp (disch := omega) only [wI, wU, wC]) <;> exact rfl)) | (apply Wp.condF; (simp only [push_cast, seval, e1, hak] <;> (try simp (disch := omega) only [wI, wU, wC]) <;> exact rfl)))
        refine ⟨k + 1, ?_, ⟨by omega, fun j hj => ?_⟩, by omega⟩
        · (refine Le.of ?_ ?_ rfl rfl <;> (try simp only [push_cast, seval, e1, hak]) <;> (try (with_reducible rfl)))
        · by_cases hjk : j = k
          · subst hjk; rw [hc0]; exact hlc
          · exact hk2 j (by omega)
      | false =>
        rw [hlc] at hlt
        repeat (first | apply Wp.seq | apply Wp.block | (apply Run.next; (simp only [push_cast, seval, e1, hak] <;> (try simp (disch := omega) only [wI, wU, wC]) <;> exact rfl); (focus ((try simp only [push_cast, seval, e1, hak]) <;> exact sT))) | ((first | apply Run.nil | apply Wp.skip); dsimp only [sQ, tQ, bQ]) | (apply Wp.run; (dsimp only [List.map] <;> exact rfl); exact rfl) | (apply Wp.exit; dsimp only [sQ, tQ, bQ]; simp only [reduceIte]) | (apply Run.gtrue; (simp only [push_cast, seval, e1, hak] <;> (try simp (disch := omega) only [wI, wU, wC]) <;> exact rfl); (simp only [push_cast, seval, e1, hak] <;> (try simp (disch := omega) only [wI, wU, wC]) <;> exact rfl)) | (apply Run.gfalse (.bool false); (simp only [push_cast, seval, e1, hak] <;> (try simp (disch := omega) only [wI, wU, wC]) <;> exact rfl); dsimp only [S.put, optG]) | (apply Wp.condT; (simp only [push_cast, seval, e1, hak] <;> (try simp (disch := omega) only [wI, wU, wC]) <;> exact rfl)) | (apply Wp.condF; (simp only [push_cast, seval, e1, hak] <;> (try simp (disch := omega) only [wI, wU, wC]) <;> exact rfl)))
        (apply Run.pureP; (simp only [push_cast, seval, e1, hak] <;> (try simp (disch := omega) only [wI, wU, wC]) <;> exact rfl); (exact (Enters.of Try.func29 rfl rfl)); (exact hlt); (focus (simp only [push_cast, seval, e1, hak] <;> first | trivial | assumption | (refine ⟨?_, ?_⟩ <;> assumption) | (simp; done))); (try dsimp only [putA, optG]))
        repeat (first | apply Wp.seq | apply Wp.block | (apply Run.next; (simp only [push_cast, seval, e1, hak] <;> (try simp (disch := omega) only [wI, wU, wC]) <;> exact rfl); (focus ((try simp only [push_cast, seval, e1, hak]) <;> exact sT))) | ((first | apply Run.nil | apply Wp.skip); dsimp only [sQ, tQ, bQ]) | (apply Wp.run; (dsimp only [List.map] <;> exact rfl); exact rfl) | (apply Wp.exit; dsimp only [sQ, tQ, bQ]; simp only [reduceIte]) | (apply Run.gtrue; (simp only [push_cast, seval, e1, hak] <;> (try simp (disch := omega) only [wI, wU, wC]) <;> exact rfl); (simp only [push_cast, seval, e1, hak] <;> (try simp (disch := omega) only [wI, wU, wC]) <;> exact rfl)) | (apply Run.gfalse (.bool false); (simp only [push_cast, seval, e1, hak] <;> (try simp (disch := omega) only [wI, wU, wC]) <;> exact rfl); dsimp only [S.put, optG]) | (apply Wp.condT; (simp only [push_cast, seval, e1, hak] <;> (try simp (disch := omega) only [wI, wU, wC]) <;> exact rfl)) | (apply Wp.condF; (simp only [push_cast, seval, e1, hak] <;> (try simp (disch := omega) only [wI, wU, wC]) <;> exact rfl)))
        (apply Wp.ret; (try dsimp only [sQ, tQ, bQ]); apply leave0; exact rfl; (simp only [push_cast, seval, e1, hak] <;> (try simp (disch := omega) only [wI, wU, wC]) <;> exact rfl); all_goals (try simp only [push_cast, seval, e1, hak]); (try rfl))
        have : l.all letter = false := by
          rw [← Bool.not_eq_true, List.all_eq_true]
          intro h
          have := h c (by rw [← hc0]; simp [hbl, hkb])
          rw [hlc] at this; cases this
        rw [this]
    · have e1 : decide ((k : Int) < (b.size : Int)) = false := decide_eq_false (by omega)
      repeat (first | apply Wp.seq | apply Wp.block | (apply Run.next; (simp only [push_cast, seval, e1] <;> (try simp (disch := omega) only [wI, wU, wC]) <;> exact rfl); (focus ((try simp only [push_cast, seval, e1]) <;> exact sT))) | ((first | apply Run.nil | apply Wp.skip); dsimp only [sQ, tQ, bQ]) | (apply Wp.run; (dsimp only [List.map] <;> exact rfl); exact rfl) | (apply Wp.exit; dsimp only [sQ, tQ, bQ]; simp only [reduceIte]) | (apply Run.gtrue; (simp only [push_cast, seval, e1] <;> (try simp (disch := omega) only [wI, wU, wC]) <;> exact rfl); (simp only [push_cast, seval, e1] <;> (try simp (disch := omega) only [wI, wU, wC]) <;> exact rfl)) | (apply Run.gfalse (.bool false); (simp only [push_cast, seval, e1] <;> (try simp (disch := omega) only [wI, wU, wC]) <;> exact rfl); dsimp only [S.put, optG]) | (apply Wp.condT; (simp only [push_cast, seval, e1] <;> (try simp (disch := omega) only [wI, wU, wC]) <;> exact rfl)) | (apply Wp.condF; (simp only [push_cast, seval, e1] <;> (try simp (disch := omega) only [wI, wU, wC]) <;> exact rfl)))
      (apply Wp.ret; (try dsimp only [sQ, tQ, bQ]); apply leave0; exact rfl; (simp only [push_cast, seval, e1] <;> (try simp (disch := omega) only [wI, wU, wC]) <;> exact rfl); all_goals (try simp only [push_cast, seval, e1]); (try rfl))
      rw [all_getD fun j hj => hk2 j (by omega)]
def pR (x : Nat) : Bool := decide ((x : Int) < 97) || decide (122 < (x : Int))
theorem pR_letter (c : UInt8) : pR c.toNat = !letter c := by
  unfold pR letter
  rw [Bool.not_and]
  congr 1
  · rw [← decide_not]; exact decide_eq_decide.2 (by omega)
  · rw [← decide_not]; exact decide_eq_decide.2 (by omega)
theorem any_isL (key : ByteArray) : (key.data.toList.any fun b => pR b.toNat) = !isL key := by
  unfold isL
  generalize key.data.toList = l
  induction l with
  | nil => rfl
  | cons c l ih => rw [List.any_cons, List.all_cons, ih, pR_letter, Bool.not_and]

theorem find1_pure (x : Nat) (hx : x ≤ 1114111) : Pure Try.prog 17 [.val (.int .i32 x)] (.bool (pR x)) := by
  unfold pR
  (refine Spec.of_body Try.func17 rfl (by rw [Try.ntmps17]; simp) 0 (by simp) ?_; rw [Try.results17, Try.ntmps17]; simp only [entry, zipArgs, Nat.reduceAdd])
  repeat (first | apply Wp.seq | apply Wp.block | (apply Run.next; (simp only [push_cast, seval] <;> (try simp (disch := omega) only [wI, wU, wC]) <;> exact rfl); (focus ((try simp only [push_cast, seval]) <;> exact sT))) | ((first | apply Run.nil | apply Wp.skip); dsimp only [sQ, tQ, bQ]) | (apply Wp.run; (dsimp only [List.map] <;> exact rfl); exact rfl) | (apply Wp.exit; dsimp only [sQ, tQ, bQ]; simp only [reduceIte]))
  (apply Wp.ret; (try dsimp only [sQ, tQ, bQ]); apply leave0; exact rfl; (simp only [push_cast, seval] <;> (try simp (disch := omega) only [wI, wU, wC]) <;> exact rfl); all_goals (try simp only [push_cast, seval]); (try rfl))
theorem wordOk_pure (key : ByteArray) : Pure Try.prog 16 [.str key, .clo 17 []] (.bool (!isL key)) := by
  have h := containsFuncB 17 pR (Enters.of Try.func17 rfl rfl) find1_pure (fun x hx => by unfold pR; rw [decide_eq_true (by omega : (122 : Int) < (x : Int))]; simp) key
  rw [any_isL] at h
  exact h
/-! the cells of a sheet -/
def pL (x : Nat) : Bool := (!decide ((x : Int) = 46)) && pR x
theorem laid1_pure (x : Nat) (hx : x ≤ 1114111) : Pure Try.prog 23 [.val (.int .i32 x)] (.bool (pL x)) := by
  unfold pL pR
  (refine Spec.of_body Try.func23 rfl (by rw [Try.ntmps23]; simp) 0 (by simp) ?_; rw [Try.results23, Try.ntmps23]; simp only [entry, zipArgs, Nat.reduceAdd])
  repeat (first | apply Wp.seq | apply Wp.block | (apply Run.next; (simp only [push_cast, seval] <;> (try simp (disch := omega) only [wI, wU, wC]) <;> exact rfl); (focus ((try simp only [push_cast, seval]) <;> exact sT))) | ((first | apply Run.nil | apply Wp.skip); dsimp only [sQ, tQ, bQ]) | (apply Wp.run; (dsimp only [List.map] <;> exact rfl); exact rfl) | (apply Wp.exit; dsimp only [sQ, tQ, bQ]; simp only [reduceIte]))
  (apply Wp.ret; (try dsimp only [sQ, tQ, bQ]); apply leave0; exact rfl; (simp only [push_cast, seval] <;> (try simp (disch := omega) only [wI, wU, wC]) <;> exact rfl); all_goals (try simp only [push_cast, seval]); (try rfl))
def cellB (c : UInt8) : Bool := decide ((c.toNat : Int) = 46) || letter c
theorem pL_cell (c : UInt8) : pL c.toNat = !cellB c := by
  unfold pL cellB
  rw [pR_letter, Bool.not_or]
theorem any_cell (b : ByteArray) : (b.data.toList.any fun b => pL b.toNat) = !b.data.toList.all cellB := by
  generalize b.data.toList = l
  induction l with
  | nil => rfl
  | cons c l ih => rw [List.any_cons, List.all_cons, ih, pL_cell, Bool.not_and]
theorem rowOk_pure (b : ByteArray) : Pure Try.prog 16 [.str b, .clo 23 []] (.bool (!b.data.toList.all cellB)) := by
  have h := containsFuncB 23 pL (Enters.of Try.func23 rfl rfl) laid1_pure (fun x hx => by unfold pL pR; rw [decide_eq_true (by omega : (122 : Int) < (x : Int)), decide_eq_false (by omega : ¬ (x : Int) = 46)]; simp) b
  rw [any_cell] at h
  exact h
end Go.Proofs.Try
