/- A part of the proof of StoreNearest: contracts of functions, with plain laws that they need. -/
import Derived.Test.YtljchlkmalidnaaVgY39J
set_option linter.all false
set_option maxHeartbeats 8000000
namespace Go.Proofs.Try
open Go.Vg

/-! what Repair does for each kind -/
/-- the search for a kind without loans -/
theorem look0_spec {ks : List St} {ls : List Ln} (life : Int) {n : Nat} {pl : List Int} (lost : Int) {F H : Mem} {N : Nat} (hF : F.length = N) {e0 e4 : Ent} {W : List Int} {T : List (Nat × List Int)} (hTl : T.length = n) :
    Go.Vg.Spec Try.prog 75 [.optr (N + (7 + n)) 0 0 0, .int 0] (F ++ blk N ks ls e0 e4 life [] 0 [] W T (repE N pl lost none :: H)) (fun _ m' => ∃ A, m' = F ++ blk N ks ls e0 e4 life [] 0 [] W T (⟨0, .row 5 [.agg [.optr (N + 3) 1 0 0, .ints pl, .int lost, .non A, .int 0]]⟩ :: H)) := by
  have hTm : (T.map lentE).length = n := by simpa using hTl
  (refine Spec.of_bodyA Try.func75 rfl (by rw [Try.ntmps75]; simp) ?_; rw [Try.results75, Try.ntmps75]; simp only [entry, zipArgs, Nat.reduceAdd])
  repeat (first | apply Wp.seq | apply Wp.block | (apply Run.next; (simp only [push_cast, seval, getF hF, getF0 hF, get7, lentR_len, getF0 hTm, List.getElem?_cons_zero, setF hF, set7, setF0 hTm, List.set_cons_zero, bA, mA] <;> (try simp (disch := omega) only [wI, wU, wC]) <;> exact rfl); (focus ((try simp only [push_cast, seval, getF hF, getF0 hF, get7, lentR_len, getF0 hTm, List.getElem?_cons_zero, setF hF, set7, setF0 hTm, List.set_cons_zero, bA, mA]) <;> exact sT))) | ((first | apply Run.nil | apply Wp.skip); dsimp only [sQ, tQ, bQ]) | (apply Wp.run; (dsimp only [List.map] <;> exact rfl); exact rfl) | (apply Wp.exit; dsimp only [sQ, tQ, bQ]; simp only [reduceIte]))
  refine Run.notNil (e := 3) (b := true) (by simp only [push_cast, seval, getF hF, getF0 hF, get7, lentR_len, getF0 hTm, List.getElem?_cons_zero, setF hF, set7, setF0 hTm, List.set_cons_zero, bA, mA]) (by simp only [push_cast, seval, getF hF, getF0 hF, get7, lentR_len, getF0 hTm, List.getElem?_cons_zero, setF hF, set7, setF0 hTm, List.set_cons_zero, bA, mA]; rfl) ?_
  dsimp only [putA]
  repeat (first | apply Wp.seq | apply Wp.block | (apply Run.next; (simp only [push_cast, seval, getF hF, getF0 hF, get7, lentR_len, getF0 hTm, List.getElem?_cons_zero, setF hF, set7, setF0 hTm, List.set_cons_zero, bA, mA] <;> (try simp (disch := omega) only [wI, wU, wC]) <;> exact rfl); (focus ((try simp only [push_cast, seval, getF hF, getF0 hF, get7, lentR_len, getF0 hTm, List.getElem?_cons_zero, setF hF, set7, setF0 hTm, List.set_cons_zero, bA, mA]) <;> exact sT))) | ((first | apply Run.nil | apply Wp.skip); dsimp only [sQ, tQ, bQ]) | (apply Wp.run; (dsimp only [List.map] <;> exact rfl); exact rfl) | (apply Wp.exit; dsimp only [sQ, tQ, bQ]; simp only [reduceIte]))
  (apply Wp.condF; (simp only [push_cast, seval, getF hF, getF0 hF, get7, lentR_len, getF0 hTm, List.getElem?_cons_zero, setF hF, set7, setF0 hTm, List.set_cons_zero, bA, mA] <;> (try simp (disch := omega) only [wI, wU, wC]) <;> exact rfl))
  repeat (first | apply Wp.seq | apply Wp.block | (apply Run.next; (simp only [push_cast, seval, getF hF, getF0 hF, get7, lentR_len, getF0 hTm, List.getElem?_cons_zero, setF hF, set7, setF0 hTm, List.set_cons_zero, bA, mA] <;> (try simp (disch := omega) only [wI, wU, wC]) <;> exact rfl); (focus ((try simp only [push_cast, seval, getF hF, getF0 hF, get7, lentR_len, getF0 hTm, List.getElem?_cons_zero, setF hF, set7, setF0 hTm, List.set_cons_zero, bA, mA]) <;> exact sT))) | ((first | apply Run.nil | apply Wp.skip); dsimp only [sQ, tQ, bQ]) | (apply Wp.run; (dsimp only [List.map] <;> exact rfl); exact rfl) | (apply Wp.exit; dsimp only [sQ, tQ, bQ]; simp only [reduceIte]))
  (apply Wp.condT; (simp only [push_cast, seval, getF hF, getF0 hF, get7, lentR_len, getF0 hTm, List.getElem?_cons_zero, setF hF, set7, setF0 hTm, List.set_cons_zero, bA, mA] <;> (try simp (disch := omega) only [wI, wU, wC]) <;> exact rfl))
  repeat (first | apply Wp.seq | apply Wp.block)
  (apply Wp.run; (dsimp only [List.map] <;> exact rfl); exact rfl)
  iterate 2 (apply Run.next; (simp only [push_cast, seval, getF hF, getF0 hF, get7, lentR_len, getF0 hTm, List.getElem?_cons_zero, setF hF, set7, setF0 hTm, List.set_cons_zero, bA, mA] <;> (try simp (disch := omega) only [wI, wU, wC]) <;> exact rfl); (focus ((try simp only [push_cast, seval, getF hF, getF0 hF, get7, lentR_len, getF0 hTm, List.getElem?_cons_zero, setF hF, set7, setF0 hTm, List.set_cons_zero, bA, mA]) <;> exact sT)))
  (apply Run.lit0; (simp only [push_cast, seval, getF hF, getF0 hF, get7, lentR_len, getF0 hTm, List.getElem?_cons_zero, setF hF, set7, setF0 hTm, List.set_cons_zero, bA, mA] <;> (try simp (disch := omega) only [wI, wU, wC]) <;> exact rfl); (focus ((try simp only [push_cast, seval, getF hF, getF0 hF, get7, lentR_len, getF0 hTm, List.getElem?_cons_zero, setF hF, set7, setF0 hTm, List.set_cons_zero, bA, mA]) <;> exact sT)))
  intro A
  dsimp only [putA]
  iterate 7 (apply Run.next; (simp only [push_cast, seval, getF hF, getF0 hF, get7, lentR_len, getF0 hTm, List.getElem?_cons_zero, setF hF, set7, setF0 hTm, List.set_cons_zero, bA, mA] <;> (try simp (disch := omega) only [wI, wU, wC]) <;> exact rfl); (focus ((try simp only [push_cast, seval, getF hF, getF0 hF, get7, lentR_len, getF0 hTm, List.getElem?_cons_zero, setF hF, set7, setF0 hTm, List.set_cons_zero, bA, mA]) <;> exact sT)))
  refine Run.app0 (e := 3) (e' := 3) (A := A) (id := N + 6) (ver := 0) (off := 0) (by simp only [push_cast, seval, getF hF, getF0 hF, get7, lentR_len, getF0 hTm, List.getElem?_cons_zero, setF hF, set7, setF0 hTm, List.set_cons_zero, bA, mA]) (by simp only [push_cast, seval, getF hF, getF0 hF, get7, lentR_len, getF0 hTm, List.getElem?_cons_zero, setF hF, set7, setF0 hTm, List.set_cons_zero, bA, mA]) (by simp only [push_cast, seval, getF hF, getF0 hF, get7, lentR_len, getF0 hTm, List.getElem?_cons_zero, setF hF, set7, setF0 hTm, List.set_cons_zero, bA, mA]) (by simp only [push_cast, seval, getF hF, getF0 hF, get7, lentR_len, getF0 hTm, List.getElem?_cons_zero, setF hF, set7, setF0 hTm, List.set_cons_zero, bA, mA]) (by simp only [push_cast, seval, getF hF, getF0 hF, get7, lentR_len, getF0 hTm, List.getElem?_cons_zero, setF hF, set7, setF0 hTm, List.set_cons_zero, bA, mA]) ?_
  dsimp only [putA]
  repeat (first | apply Wp.seq | apply Wp.block | (apply Run.next; (simp only [push_cast, seval, getF hF, getF0 hF, get7, lentR_len, getF0 hTm, List.getElem?_cons_zero, setF hF, set7, setF0 hTm, List.set_cons_zero, bA, mA] <;> (try simp (disch := omega) only [wI, wU, wC]) <;> exact rfl); (focus ((try simp only [push_cast, seval, getF hF, getF0 hF, get7, lentR_len, getF0 hTm, List.getElem?_cons_zero, setF hF, set7, setF0 hTm, List.set_cons_zero, bA, mA]) <;> exact sT))) | ((first | apply Run.nil | apply Wp.skip); dsimp only [sQ, tQ, bQ]) | (apply Wp.run; (dsimp only [List.map] <;> exact rfl); exact rfl) | (apply Wp.exit; dsimp only [sQ, tQ, bQ]; simp only [reduceIte]))
  (apply Wp.ret; (try dsimp only [sQ, tQ, bQ]); apply leaveA; exact rfl; (simp only [push_cast, seval, getF hF, getF0 hF, get7, lentR_len, getF0 hTm, List.getElem?_cons_zero, setF hF, set7, setF0 hTm, List.set_cons_zero, bA, mA] <;> (try simp (disch := omega) only [wI, wU, wC]) <;> exact rfl); (focus (first | (simp only [push_cast, seval, getF hF, getF0 hF, get7, lentR_len, getF0 hTm, List.getElem?_cons_zero, setF hF, set7, setF0 hTm, List.set_cons_zero, bA, mA]; done) | trivial | (simp only [push_cast, seval, getF hF, getF0 hF, get7, lentR_len, getF0 hTm, List.getElem?_cons_zero, setF hF, set7, setF0 hTm, List.set_cons_zero, bA, mA]; trivial) | (simp; done))); (try simp only [push_cast, seval, getF hF, getF0 hF, get7, lentR_len, getF0 hTm, List.getElem?_cons_zero, setF hF, set7, setF0 hTm, List.set_cons_zero, bA, mA]))
  exact ⟨A, rfl⟩
def lostK (kind lost : Int) (k : Nat) : Int := if (k : Int) = kind then lost else -1
def rpK (ks : List St) (ls : List Ln) (pl : List Int) (kind lost : Int) (k : Nat) : Bs := lkS ls (ks.getD k st0).life (loanP ls (k : Int) ls.length) (ks.getD k st0).items.toNat pl (lostK kind lost k) (loanP ls (k : Int) ls.length).length [] none
theorem rpK_some {ks : List St} {ls : List Ln} {pl : List Int} {kind lost : Int} {k : Nat} {J : List Int} {m : Int} (h : rpK ks ls pl kind lost k = some (J, m)) : J.length = (loanP ls (k : Int) ls.length).length ∧ m = dL pl (loanP ls (k : Int) ls.length) J ∧ 0 ≤ m ∧ m ≤ J.length := by
  unfold rpK lkS at h
  rcases stF_best (D := dL pl (loanP ls (k : Int) ls.length)) (plL_sorted (c := fun _ => (ks.getD k st0).items.toNat) (ok := okX ls (ks.getD k st0).life (loanP ls (k : Int) ls.length) (lostK kind lost k)) (r := (loanP ls (k : Int) ls.length).length) (I := [])) with ⟨h1, _⟩ | ⟨J', h1, h2, _⟩
  · rw [h1] at h; cases h
  · rw [h1] at h
    simp only [Option.some.injEq, Prod.mk.injEq] at h
    obtain ⟨rfl, rfl⟩ := h
    have h3 := (plL_mem.1 h2).1
    have h4 : 0 ≤ dL pl (loanP ls (k : Int) ls.length) J' ∧ dL pl (loanP ls (k : Int) ls.length) J' ≤ J'.length := dfN_bd _ _ _
    exact ⟨by simpa using h3, rfl, h4.1, h4.2⟩
def DoRQ (F : Int → Mem) (N : Nat) (L : List Int) (c : Int) (st : Bs) (x : AV) (m' : Mem) : Prop :=
  (st = none ∧ x = .bool false ∧ ∃ B, m' = F c ++ B) ∨ (∃ J m, st = some (J, m) ∧ x = .bool true ∧ ∃ B b x0 x1 x2 x5 x6, m' = F (c + m) ++ B ∧ B[3]? = some ⟨1, .row 7 [.agg [x0, x1, x2, .osl (N + 5) L.length 0 L.length, b, x5, x6]]⟩ ∧ B[5]? = some ⟨L.length, .row 1 (L.map AV.int)⟩ ∧ (L ≠ [] → b = .ints J))
theorem repairDo_spec {ks : List St} {ls : List Ln} (hv : SV ks ls) {k : Nat} (hk : k < ks.length) {F : Int → Mem} {N : Nat} (hF : ∀ c, (F c).length = N) (h4 : ∀ c l, (F c ++ l)[4]? = some ⟨0, .row 1 [.int c]⟩) (h4s : ∀ c c' l, (F c ++ l).set 4 ⟨0, .row 1 [.int c']⟩ = F c' ++ l) {c : Int} (hc : 0 ≤ c ∧ c ≤ 1000) {pl : List Int} (hpl : pl.length = ls.length) (kind lost : Int) (e0 e4 : Ent) :
    Go.Vg.Spec Try.prog 74 [.optr (N + 3) 1 0 0, .int k, .ref [.ints pl] 0, .ref [.int kind] 0, .ref [.int lost] 0, .optr 4 0 0 0] (F c ++ blk N ks ls e0 e4 (ks.getD k st0).life (loanP ls (k : Int) ls.length) 0 [] (List.replicate (ks.getD k st0).items.toNat 0) (T0 (ks.getD k st0).items.toNat) []) (DoRQ F N (loanP ls (k : Int) ls.length) c (rpK ks ls pl kind lost k)) := by
  have hl20 := hv.l20
  have hst := hv.st k hk
  have hLl := loanP_len ls (k : Int) ls.length
  have hLi := loanP_in ls (k : Int)
  have hT0 := tO_nil (loanP ls (k : Int) ls.length) (ks.getD k st0).items.toNat
  have hw0 := wO_nil ls (loanP ls (k : Int) ls.length) (ks.getD k st0).items.toNat
  have hrs := fun {J m} => rpK_some (ks := ks) (ls := ls) (pl := pl) (kind := kind) (lost := lost) (k := k) (J := J) (m := m)
  have hr0 : loanP ls (k : Int) ls.length = [] → rpK ks ls pl kind lost k = some ([], 0) := fun h => by unfold rpK; rw [h]; rfl
  have hlk := fun (hpos : 0 < (loanP ls (k : Int) ls.length).length) => look_spec hv (ks.getD k st0).life hLi (by omega) hpos (n := (ks.getD k st0).items.toNat) (by omega) hpl (lostK kind lost k) (loanP ls (k : Int) ls.length).length (F := F c) (H := []) (N := N) (hF c) (e0 := e0) (e4 := e4) (vi := 0) (I := []) (T := T0 (ks.getD k st0).items.toNat) (st := none) (by simp) (by simp) hT0 (fun J d h => by cases h)
  have hrp : rpK ks ls pl kind lost k = lkS ls (ks.getD k st0).life (loanP ls (k : Int) ls.length) (ks.getD k st0).items.toNat pl (lostK kind lost k) (loanP ls (k : Int) ls.length).length [] none := rfl
  rw [← hrp, hw0, show dL pl (loanP ls (k : Int) ls.length) [] = 0 from rfl] at hlk
  generalize rpK ks ls pl kind lost k = rp at *
  generalize hlo : lostK kind lost k = lo at hlk
  unfold lostK at hlo
  generalize (ks.getD k st0).items.toNat = n at *
  generalize (ks.getD k st0).life = life at *
  generalize loanP ls (k : Int) ls.length = L at *
  have hTl : (T0 n).length = n := by simp [T0]
  have hTm : ((T0 n).map lentE).length = n := by simpa using hTl
  generalize T0 n = T at *
  have hlen : (F c ++ blk N ks ls e0 e4 life L 0 [] (List.replicate n 0) T []).length = N + (7 + n) := by
    rw [List.length_append, hF]
    simp only [blk, List.length_cons, List.length_append, hTm, List.length_nil]; omega
  have happ : ∀ x, F c ++ blk N ks ls e0 e4 life L 0 [] (List.replicate n 0) T [] ++ [x] = F c ++ blk N ks ls e0 e4 life L 0 [] (List.replicate n 0) T [x] := fun x => by simp [blk]
  have htz : tz Try.prog 94 = some (.agg #[.pointer none, .slice none 0 0, .int .i64 0, .slice none 0 0, .int .i64 0]) := by kernel_rfl
  (refine Spec.of_bodyA Try.func74 rfl (by rw [Try.ntmps74]; simp) ?_; rw [Try.results74, Try.ntmps74]; simp only [entry, zipArgs, Nat.reduceAdd])
  repeat (first | apply Wp.seq | apply Wp.block)
  (apply Wp.run; (dsimp only [List.map] <;> exact rfl); exact rfl)
  (apply Run.next; (simp only [push_cast, seval, getF (hF c), getF0 (hF c), get7, lentR_len, getF0 hTm, List.getElem?_cons_zero, setF (hF c), set7, setF0 hTm, List.set_cons_zero, hlen, happ, h4, h4s] <;> (try simp (disch := omega) only [wI, wU, wC]) <;> exact rfl); (focus ((try simp only [push_cast, seval, getF (hF c), getF0 (hF c), get7, lentR_len, getF0 hTm, List.getElem?_cons_zero, setF (hF c), set7, setF0 hTm, List.set_cons_zero, hlen, happ, h4, h4s]) <;> exact sT)))
  (apply Run.nil; dsimp only [sQ, tQ, bQ])
  repeat (first | apply Wp.seq | apply Wp.block)
  (apply Wp.run; (dsimp only [List.map] <;> exact rfl); exact rfl)
  iterate 2 (apply Run.next; (simp only [push_cast, seval, getF (hF c), getF0 (hF c), get7, lentR_len, getF0 hTm, List.getElem?_cons_zero, setF (hF c), set7, setF0 hTm, List.set_cons_zero, hlen, happ, h4, h4s] <;> (try simp (disch := omega) only [wI, wU, wC]) <;> exact rfl); (focus ((try simp only [push_cast, seval, getF (hF c), getF0 (hF c), get7, lentR_len, getF0 hTm, List.getElem?_cons_zero, setF (hF c), set7, setF0 hTm, List.set_cons_zero, hlen, happ, h4, h4s]) <;> exact sT)))
  refine Run.buildN (z := .agg [.optr (N + 3) 1 0 0, .ints pl, .int (-1), .nil, .int 0]) (by unfold Go.Vg.buildN; rw [htz]; simp only [push_cast, seval, getF (hF c), getF0 (hF c), get7, lentR_len, getF0 hTm, List.getElem?_cons_zero, setF (hF c), set7, setF0 hTm, List.set_cons_zero, hlen, happ, h4, h4s]; exact rfl) (by simp [AV.flat]) ?_
  dsimp only [putA]
  repeat (first | apply Wp.seq | apply Wp.block | (apply Run.next; (simp only [push_cast, seval, getF (hF c), getF0 (hF c), get7, lentR_len, getF0 hTm, List.getElem?_cons_zero, setF (hF c), set7, setF0 hTm, List.set_cons_zero, hlen, happ, h4, h4s] <;> (try simp (disch := omega) only [wI, wU, wC]) <;> exact rfl); (focus ((try simp only [push_cast, seval, getF (hF c), getF0 (hF c), get7, lentR_len, getF0 hTm, List.getElem?_cons_zero, setF (hF c), set7, setF0 hTm, List.set_cons_zero, hlen, happ, h4, h4s]) <;> exact sT))) | ((first | apply Run.nil | apply Wp.skip); dsimp only [sQ, tQ, bQ]) | (apply Wp.run; (dsimp only [List.map] <;> exact rfl); exact rfl) | (apply Wp.exit; dsimp only [sQ, tQ, bQ]; simp only [reduceIte]))
  refine Wp.meet { t := [(0, .optr (N + 3) 1 0 0), (1, .int k), (5, .optr 4 0 0 0), (9, .optr (N + (7 + n)) 0 0 0)], m := F c ++ blk N ks ls e0 e4 life L 0 [] (List.replicate n 0) T [repE N pl lo none], n := 41 } True ?_ ?_
  · (apply Wp.cond; (simp only [push_cast, seval, getF (hF c), getF0 (hF c), get7, lentR_len, getF0 hTm, List.getElem?_cons_zero, setF (hF c), set7, setF0 hTm, List.set_cons_zero, hlen, happ, h4, h4s] <;> (try simp (disch := omega) only [wI, wU, wC]) <;> exact rfl))
    · intro hck
      simp only [decide_eq_true_eq] at hck
      rw [if_pos hck] at hlo
      subst hlo
      repeat (first | apply Wp.seq | apply Wp.block | (apply Run.next; (simp only [push_cast, seval, getF (hF c), getF0 (hF c), get7, lentR_len, getF0 hTm, List.getElem?_cons_zero, setF (hF c), set7, setF0 hTm, List.set_cons_zero, hlen, happ, h4, h4s] <;> (try simp (disch := omega) only [wI, wU, wC]) <;> exact rfl); (focus ((try simp only [push_cast, seval, getF (hF c), getF0 (hF c), get7, lentR_len, getF0 hTm, List.getElem?_cons_zero, setF (hF c), set7, setF0 hTm, List.set_cons_zero, hlen, happ, h4, h4s]) <;> exact sT))) | ((first | apply Run.nil | apply Wp.skip); dsimp only [sQ, tQ, bQ]) | (apply Wp.run; (dsimp only [List.map] <;> exact rfl); exact rfl) | (apply Wp.exit; dsimp only [sQ, tQ, bQ]; simp only [reduceIte]) | (apply Run.gtrue; (simp only [push_cast, seval, getF (hF c), getF0 (hF c), get7, lentR_len, getF0 hTm, List.getElem?_cons_zero, setF (hF c), set7, setF0 hTm, List.set_cons_zero, hlen, happ, h4, h4s] <;> (try simp (disch := omega) only [wI, wU, wC]) <;> exact rfl); (simp only [push_cast, seval, getF (hF c), getF0 (hF c), get7, lentR_len, getF0 hTm, List.getElem?_cons_zero, setF (hF c), set7, setF0 hTm, List.set_cons_zero, hlen, happ, h4, h4s] <;> (try simp (disch := omega) only [wI, wU, wC]) <;> exact rfl)) | (apply Run.gfalse (.bool false); (simp only [push_cast, seval, getF (hF c), getF0 (hF c), get7, lentR_len, getF0 hTm, List.getElem?_cons_zero, setF (hF c), set7, setF0 hTm, List.set_cons_zero, hlen, happ, h4, h4s] <;> (try simp (disch := omega) only [wI, wU, wC]) <;> exact rfl); dsimp only [S.put, optG]) | (apply Wp.condT; (simp only [push_cast, seval, getF (hF c), getF0 (hF c), get7, lentR_len, getF0 hTm, List.getElem?_cons_zero, setF (hF c), set7, setF0 hTm, List.set_cons_zero, hlen, happ, h4, h4s] <;> (try simp (disch := omega) only [wI, wU, wC]) <;> exact rfl)) | (apply Wp.condF; (simp only [push_cast, seval, getF (hF c), getF0 (hF c), get7, lentR_len, getF0 hTm, List.getElem?_cons_zero, setF (hF c), set7, setF0 hTm, List.set_cons_zero, hlen, happ, h4, h4s] <;> (try simp (disch := omega) only [wI, wU, wC]) <;> exact rfl)))
      refine ⟨?_, trivial⟩
      (refine Le.of ?_ ?_ rfl rfl <;> (try simp only [push_cast, seval, getF (hF c), getF0 (hF c), get7, lentR_len, getF0 hTm, List.getElem?_cons_zero, setF (hF c), set7, setF0 hTm, List.set_cons_zero, hlen, happ, h4, h4s]) <;> (try (with_reducible rfl)))
      all_goals rfl
    · intro hck
      simp only [decide_eq_false_iff_not] at hck
      rw [if_neg hck] at hlo
      subst hlo
      repeat (first | apply Wp.seq | apply Wp.block | (apply Run.next; (simp only [push_cast, seval, getF (hF c), getF0 (hF c), get7, lentR_len, getF0 hTm, List.getElem?_cons_zero, setF (hF c), set7, setF0 hTm, List.set_cons_zero, hlen, happ, h4, h4s] <;> (try simp (disch := omega) only [wI, wU, wC]) <;> exact rfl); (focus ((try simp only [push_cast, seval, getF (hF c), getF0 (hF c), get7, lentR_len, getF0 hTm, List.getElem?_cons_zero, setF (hF c), set7, setF0 hTm, List.set_cons_zero, hlen, happ, h4, h4s]) <;> exact sT))) | ((first | apply Run.nil | apply Wp.skip); dsimp only [sQ, tQ, bQ]) | (apply Wp.run; (dsimp only [List.map] <;> exact rfl); exact rfl) | (apply Wp.exit; dsimp only [sQ, tQ, bQ]; simp only [reduceIte]) | (apply Run.gtrue; (simp only [push_cast, seval, getF (hF c), getF0 (hF c), get7, lentR_len, getF0 hTm, List.getElem?_cons_zero, setF (hF c), set7, setF0 hTm, List.set_cons_zero, hlen, happ, h4, h4s] <;> (try simp (disch := omega) only [wI, wU, wC]) <;> exact rfl); (simp only [push_cast, seval, getF (hF c), getF0 (hF c), get7, lentR_len, getF0 hTm, List.getElem?_cons_zero, setF (hF c), set7, setF0 hTm, List.set_cons_zero, hlen, happ, h4, h4s] <;> (try simp (disch := omega) only [wI, wU, wC]) <;> exact rfl)) | (apply Run.gfalse (.bool false); (simp only [push_cast, seval, getF (hF c), getF0 (hF c), get7, lentR_len, getF0 hTm, List.getElem?_cons_zero, setF (hF c), set7, setF0 hTm, List.set_cons_zero, hlen, happ, h4, h4s] <;> (try simp (disch := omega) only [wI, wU, wC]) <;> exact rfl); dsimp only [S.put, optG]) | (apply Wp.condT; (simp only [push_cast, seval, getF (hF c), getF0 (hF c), get7, lentR_len, getF0 hTm, List.getElem?_cons_zero, setF (hF c), set7, setF0 hTm, List.set_cons_zero, hlen, happ, h4, h4s] <;> (try simp (disch := omega) only [wI, wU, wC]) <;> exact rfl)) | (apply Wp.condF; (simp only [push_cast, seval, getF (hF c), getF0 (hF c), get7, lentR_len, getF0 hTm, List.getElem?_cons_zero, setF (hF c), set7, setF0 hTm, List.set_cons_zero, hlen, happ, h4, h4s] <;> (try simp (disch := omega) only [wI, wU, wC]) <;> exact rfl)))
      refine ⟨?_, trivial⟩
      (refine Le.of ?_ ?_ rfl rfl <;> (try simp only [push_cast, seval, getF (hF c), getF0 (hF c), get7, lentR_len, getF0 hTm, List.getElem?_cons_zero, setF (hF c), set7, setF0 hTm, List.set_cons_zero, hlen, happ, h4, h4s]) <;> (try (with_reducible rfl)))
      all_goals rfl
  · (try dsimp only [sQ, tQ, bQ])
    intro s' hs' _
    refine Wp.le hs' ?_
    by_cases hLz : L = []
    · subst hLz
      have hr0 := hr0 rfl
      subst hr0
      repeat (first | apply Wp.seq | apply Wp.block | (apply Run.next; (simp only [push_cast, seval, getF (hF c), getF0 (hF c), get7, lentR_len, getF0 hTm, List.getElem?_cons_zero, setF (hF c), set7, setF0 hTm, List.set_cons_zero, hlen, happ, h4, h4s] <;> (try simp (disch := omega) only [wI, wU, wC]) <;> exact rfl); (focus ((try simp only [push_cast, seval, getF (hF c), getF0 (hF c), get7, lentR_len, getF0 hTm, List.getElem?_cons_zero, setF (hF c), set7, setF0 hTm, List.set_cons_zero, hlen, happ, h4, h4s]) <;> exact sT))) | ((first | apply Run.nil | apply Wp.skip); dsimp only [sQ, tQ, bQ]) | (apply Wp.run; (dsimp only [List.map] <;> exact rfl); exact rfl) | (apply Wp.exit; dsimp only [sQ, tQ, bQ]; simp only [reduceIte]))
      apply Run.spec (he := Enters.of Try.func75 rfl rfl) (hc := look0_spec (ks := ks) (ls := ls) life (pl := pl) lo (H := []) (hF c) (e0 := e0) (e4 := e4) (W := List.replicate n 0) (T := T) hTl)
      focus exact rfl
      focus (simp only [push_cast, seval, getF (hF c), getF0 (hF c), get7, lentR_len, getF0 hTm, List.getElem?_cons_zero, setF (hF c), set7, setF0 hTm, List.set_cons_zero, hlen, happ, h4, h4s] <;> exact rfl)
      focus (simp only [push_cast, seval, getF (hF c), getF0 (hF c), get7, lentR_len, getF0 hTm, List.getElem?_cons_zero, setF (hF c), set7, setF0 hTm, List.set_cons_zero, hlen, happ, h4, h4s] <;> (try simp (disch := omega) only [wI, wU, wC]) <;> exact rfl)
      rintro x' m' ⟨A, rfl⟩
      dsimp only [S.put, optG]
      repeat (first | apply Wp.seq | apply Wp.block | (apply Run.next; (simp only [push_cast, seval, getF (hF c), getF0 (hF c), get7, lentR_len, getF0 hTm, List.getElem?_cons_zero, setF (hF c), set7, setF0 hTm, List.set_cons_zero, hlen, happ, h4, h4s] <;> (try simp (disch := omega) only [wI, wU, wC]) <;> exact rfl); (focus ((try simp only [push_cast, seval, getF (hF c), getF0 (hF c), get7, lentR_len, getF0 hTm, List.getElem?_cons_zero, setF (hF c), set7, setF0 hTm, List.set_cons_zero, hlen, happ, h4, h4s]) <;> exact sT))) | ((first | apply Run.nil | apply Wp.skip); dsimp only [sQ, tQ, bQ]) | (apply Wp.run; (dsimp only [List.map] <;> exact rfl); exact rfl) | (apply Wp.exit; dsimp only [sQ, tQ, bQ]; simp only [reduceIte]))
      refine Run.isNil (e := 3) (b := false) (by simp only [push_cast, seval, getF (hF c), getF0 (hF c), get7, lentR_len, getF0 hTm, List.getElem?_cons_zero, setF (hF c), set7, setF0 hTm, List.set_cons_zero, hlen, happ, h4, h4s]) (by simp only [push_cast, seval, getF (hF c), getF0 (hF c), get7, lentR_len, getF0 hTm, List.getElem?_cons_zero, setF (hF c), set7, setF0 hTm, List.set_cons_zero, hlen, happ, h4, h4s]; rfl) ?_
      dsimp only [putA]
      repeat (first | apply Wp.seq | apply Wp.block | (apply Run.next; (simp only [push_cast, seval, getF (hF c), getF0 (hF c), get7, lentR_len, getF0 hTm, List.getElem?_cons_zero, setF (hF c), set7, setF0 hTm, List.set_cons_zero, hlen, happ, h4, h4s] <;> (try simp (disch := omega) only [wI, wU, wC]) <;> exact rfl); (focus ((try simp only [push_cast, seval, getF (hF c), getF0 (hF c), get7, lentR_len, getF0 hTm, List.getElem?_cons_zero, setF (hF c), set7, setF0 hTm, List.set_cons_zero, hlen, happ, h4, h4s]) <;> exact sT))) | ((first | apply Run.nil | apply Wp.skip); dsimp only [sQ, tQ, bQ]) | (apply Wp.run; (dsimp only [List.map] <;> exact rfl); exact rfl) | (apply Wp.exit; dsimp only [sQ, tQ, bQ]; simp only [reduceIte]) | (apply Run.gtrue; (simp only [push_cast, seval, getF (hF c), getF0 (hF c), get7, lentR_len, getF0 hTm, List.getElem?_cons_zero, setF (hF c), set7, setF0 hTm, List.set_cons_zero, hlen, happ, h4, h4s] <;> (try simp (disch := omega) only [wI, wU, wC]) <;> exact rfl); (simp only [push_cast, seval, getF (hF c), getF0 (hF c), get7, lentR_len, getF0 hTm, List.getElem?_cons_zero, setF (hF c), set7, setF0 hTm, List.set_cons_zero, hlen, happ, h4, h4s] <;> (try simp (disch := omega) only [wI, wU, wC]) <;> exact rfl)) | (apply Run.gfalse (.bool false); (simp only [push_cast, seval, getF (hF c), getF0 (hF c), get7, lentR_len, getF0 hTm, List.getElem?_cons_zero, setF (hF c), set7, setF0 hTm, List.set_cons_zero, hlen, happ, h4, h4s] <;> (try simp (disch := omega) only [wI, wU, wC]) <;> exact rfl); dsimp only [S.put, optG]) | (apply Wp.condT; (simp only [push_cast, seval, getF (hF c), getF0 (hF c), get7, lentR_len, getF0 hTm, List.getElem?_cons_zero, setF (hF c), set7, setF0 hTm, List.set_cons_zero, hlen, happ, h4, h4s] <;> (try simp (disch := omega) only [wI, wU, wC]) <;> exact rfl)) | (apply Wp.condF; (simp only [push_cast, seval, getF (hF c), getF0 (hF c), get7, lentR_len, getF0 hTm, List.getElem?_cons_zero, setF (hF c), set7, setF0 hTm, List.set_cons_zero, hlen, happ, h4, h4s] <;> (try simp (disch := omega) only [wI, wU, wC]) <;> exact rfl)))
      (apply Wp.runE 6 6 mixed; (dsimp only [List.map] <;> exact rfl); exact rfl; kernel_rfl; ((repeat (apply Abe.next; exact rfl; (simp only [push_cast, seval, getF (hF c), getF0 (hF c), get7, lentR_len, getF0 hTm, List.getElem?_cons_zero, setF (hF c), set7, setF0 hTm, List.set_cons_zero, hlen, happ, h4, h4s] <;> (try simp (disch := omega) only [wI, wU, wC]) <;> exact rfl); (focus ((try simp only [push_cast, seval, getF (hF c), getF0 (hF c), get7, lentR_len, getF0 hTm, List.getElem?_cons_zero, setF (hF c), set7, setF0 hTm, List.set_cons_zero, hlen, happ, h4, h4s]) <;> exact sT)))); (apply Abe.eff; exact rfl; (simp only [push_cast, seval, getF (hF c), getF0 (hF c), get7, lentR_len, getF0 hTm, List.getElem?_cons_zero, setF (hF c), set7, setF0 hTm, List.set_cons_zero, hlen, happ, h4, h4s] <;> (try simp (disch := omega) only [wI, wU, wC]) <;> exact rfl); (focus ((try simp only [push_cast, seval, getF (hF c), getF0 (hF c), get7, lentR_len, getF0 hTm, List.getElem?_cons_zero, setF (hF c), set7, setF0 hTm, List.set_cons_zero, hlen, happ, h4, h4s]) <;> exact sT)); (try dsimp only [putA])); exact Abe.nil))
      repeat (first | apply Wp.seq | apply Wp.block | (apply Run.next; (simp only [push_cast, seval, getF (hF c), getF0 (hF c), get7, lentR_len, getF0 hTm, List.getElem?_cons_zero, setF (hF c), set7, setF0 hTm, List.set_cons_zero, hlen, happ, h4, h4s] <;> (try simp (disch := omega) only [wI, wU, wC]) <;> exact rfl); (focus ((try simp only [push_cast, seval, getF (hF c), getF0 (hF c), get7, lentR_len, getF0 hTm, List.getElem?_cons_zero, setF (hF c), set7, setF0 hTm, List.set_cons_zero, hlen, happ, h4, h4s]) <;> exact sT))) | ((first | apply Run.nil | apply Wp.skip); dsimp only [sQ, tQ, bQ]) | (apply Wp.run; (dsimp only [List.map] <;> exact rfl); exact rfl) | (apply Wp.exit; dsimp only [sQ, tQ, bQ]; simp only [reduceIte]) | (apply Run.gtrue; (simp only [push_cast, seval, getF (hF c), getF0 (hF c), get7, lentR_len, getF0 hTm, List.getElem?_cons_zero, setF (hF c), set7, setF0 hTm, List.set_cons_zero, hlen, happ, h4, h4s] <;> (try simp (disch := omega) only [wI, wU, wC]) <;> exact rfl); (simp only [push_cast, seval, getF (hF c), getF0 (hF c), get7, lentR_len, getF0 hTm, List.getElem?_cons_zero, setF (hF c), set7, setF0 hTm, List.set_cons_zero, hlen, happ, h4, h4s] <;> (try simp (disch := omega) only [wI, wU, wC]) <;> exact rfl)) | (apply Run.gfalse (.bool false); (simp only [push_cast, seval, getF (hF c), getF0 (hF c), get7, lentR_len, getF0 hTm, List.getElem?_cons_zero, setF (hF c), set7, setF0 hTm, List.set_cons_zero, hlen, happ, h4, h4s] <;> (try simp (disch := omega) only [wI, wU, wC]) <;> exact rfl); dsimp only [S.put, optG]) | (apply Wp.condT; (simp only [push_cast, seval, getF (hF c), getF0 (hF c), get7, lentR_len, getF0 hTm, List.getElem?_cons_zero, setF (hF c), set7, setF0 hTm, List.set_cons_zero, hlen, happ, h4, h4s] <;> (try simp (disch := omega) only [wI, wU, wC]) <;> exact rfl)) | (apply Wp.condF; (simp only [push_cast, seval, getF (hF c), getF0 (hF c), get7, lentR_len, getF0 hTm, List.getElem?_cons_zero, setF (hF c), set7, setF0 hTm, List.set_cons_zero, hlen, happ, h4, h4s] <;> (try simp (disch := omega) only [wI, wU, wC]) <;> exact rfl)))
      (apply Wp.ret; (try dsimp only [sQ, tQ, bQ]); apply leaveA; exact rfl; (simp only [push_cast, seval, getF (hF c), getF0 (hF c), get7, lentR_len, getF0 hTm, List.getElem?_cons_zero, setF (hF c), set7, setF0 hTm, List.set_cons_zero, hlen, happ, h4, h4s] <;> (try simp (disch := omega) only [wI, wU, wC]) <;> exact rfl); (focus (first | (simp only [push_cast, seval, getF (hF c), getF0 (hF c), get7, lentR_len, getF0 hTm, List.getElem?_cons_zero, setF (hF c), set7, setF0 hTm, List.set_cons_zero, hlen, happ, h4, h4s]; done) | trivial | (simp only [push_cast, seval, getF (hF c), getF0 (hF c), get7, lentR_len, getF0 hTm, List.getElem?_cons_zero, setF (hF c), set7, setF0 hTm, List.set_cons_zero, hlen, happ, h4, h4s]; trivial) | (simp; done))); (try simp only [push_cast, seval, getF (hF c), getF0 (hF c), get7, lentR_len, getF0 hTm, List.getElem?_cons_zero, setF (hF c), set7, setF0 hTm, List.set_cons_zero, hlen, happ, h4, h4s]))
      refine .inr ⟨[], 0, rfl, rfl, _, .non A, _, _, _, _, _, by rw [Int.add_zero], rfl, rfl, fun h => absurd rfl h⟩
    · have hpos : 0 < L.length := List.length_pos_iff.2 hLz
      repeat (first | apply Wp.seq | apply Wp.block | (apply Run.next; (simp only [push_cast, seval, getF (hF c), getF0 (hF c), get7, lentR_len, getF0 hTm, List.getElem?_cons_zero, setF (hF c), set7, setF0 hTm, List.set_cons_zero, hlen, happ, h4, h4s] <;> (try simp (disch := omega) only [wI, wU, wC]) <;> exact rfl); (focus ((try simp only [push_cast, seval, getF (hF c), getF0 (hF c), get7, lentR_len, getF0 hTm, List.getElem?_cons_zero, setF (hF c), set7, setF0 hTm, List.set_cons_zero, hlen, happ, h4, h4s]) <;> exact sT))) | ((first | apply Run.nil | apply Wp.skip); dsimp only [sQ, tQ, bQ]) | (apply Wp.run; (dsimp only [List.map] <;> exact rfl); exact rfl) | (apply Wp.exit; dsimp only [sQ, tQ, bQ]; simp only [reduceIte]))
      apply Run.spec (he := Enters.of Try.func75 rfl rfl) (hc := hlk hpos)
      focus exact rfl
      focus (simp only [push_cast, seval, getF (hF c), getF0 (hF c), get7, lentR_len, getF0 hTm, List.getElem?_cons_zero, setF (hF c), set7, setF0 hTm, List.set_cons_zero, hlen, happ, h4, h4s] <;> exact rfl)
      focus (simp only [push_cast, seval, getF (hF c), getF0 (hF c), get7, lentR_len, getF0 hTm, List.getElem?_cons_zero, setF (hF c), set7, setF0 hTm, List.set_cons_zero, hlen, happ, h4, h4s] <;> (try simp (disch := omega) only [wI, wU, wC]) <;> exact rfl)
      rintro x' m' ⟨vi', T', H', h2, rfl⟩
      have hT'l : T'.length = n := by have := congrArg List.length h2; rw [List.length_map, tO_len] at this; exact this
      have hT'm : (T'.map lentE).length = n := by simpa using hT'l
      generalize wO ls L n [] = W at *
      cases rp with
      | none =>
        dsimp only [S.put, optG]
        repeat (first | apply Wp.seq | apply Wp.block | (apply Run.next; (simp only [push_cast, seval, getF (hF c), getF0 (hF c), get7, lentR_len, getF0 hT'm, List.getElem?_cons_zero, setF (hF c), set7, setF0 hT'm, List.set_cons_zero, h4, h4s, bA, mA] <;> (try simp (disch := omega) only [wI, wU, wC]) <;> exact rfl); (focus ((try simp only [push_cast, seval, getF (hF c), getF0 (hF c), get7, lentR_len, getF0 hT'm, List.getElem?_cons_zero, setF (hF c), set7, setF0 hT'm, List.set_cons_zero, h4, h4s, bA, mA]) <;> exact sT))) | ((first | apply Run.nil | apply Wp.skip); dsimp only [sQ, tQ, bQ]) | (apply Wp.run; (dsimp only [List.map] <;> exact rfl); exact rfl) | (apply Wp.exit; dsimp only [sQ, tQ, bQ]; simp only [reduceIte]))
        refine Run.isNil (e := 3) (b := true) (by simp only [push_cast, seval, getF (hF c), getF0 (hF c), get7, lentR_len, getF0 hT'm, List.getElem?_cons_zero, setF (hF c), set7, setF0 hT'm, List.set_cons_zero, h4, h4s, bA, mA]) (by simp only [push_cast, seval, getF (hF c), getF0 (hF c), get7, lentR_len, getF0 hT'm, List.getElem?_cons_zero, setF (hF c), set7, setF0 hT'm, List.set_cons_zero, h4, h4s, bA, mA]; rfl) ?_
        dsimp only [putA]
        repeat (first | apply Wp.seq | apply Wp.block | (apply Run.next; (simp only [push_cast, seval, getF (hF c), getF0 (hF c), get7, lentR_len, getF0 hT'm, List.getElem?_cons_zero, setF (hF c), set7, setF0 hT'm, List.set_cons_zero, h4, h4s, bA, mA] <;> (try simp (disch := omega) only [wI, wU, wC]) <;> exact rfl); (focus ((try simp only [push_cast, seval, getF (hF c), getF0 (hF c), get7, lentR_len, getF0 hT'm, List.getElem?_cons_zero, setF (hF c), set7, setF0 hT'm, List.set_cons_zero, h4, h4s, bA, mA]) <;> exact sT))) | ((first | apply Run.nil | apply Wp.skip); dsimp only [sQ, tQ, bQ]) | (apply Wp.run; (dsimp only [List.map] <;> exact rfl); exact rfl) | (apply Wp.exit; dsimp only [sQ, tQ, bQ]; simp only [reduceIte]) | (apply Run.gtrue; (simp only [push_cast, seval, getF (hF c), getF0 (hF c), get7, lentR_len, getF0 hT'm, List.getElem?_cons_zero, setF (hF c), set7, setF0 hT'm, List.set_cons_zero, h4, h4s, bA, mA] <;> (try simp (disch := omega) only [wI, wU, wC]) <;> exact rfl); (simp only [push_cast, seval, getF (hF c), getF0 (hF c), get7, lentR_len, getF0 hT'm, List.getElem?_cons_zero, setF (hF c), set7, setF0 hT'm, List.set_cons_zero, h4, h4s, bA, mA] <;> (try simp (disch := omega) only [wI, wU, wC]) <;> exact rfl)) | (apply Run.gfalse (.bool false); (simp only [push_cast, seval, getF (hF c), getF0 (hF c), get7, lentR_len, getF0 hT'm, List.getElem?_cons_zero, setF (hF c), set7, setF0 hT'm, List.set_cons_zero, h4, h4s, bA, mA] <;> (try simp (disch := omega) only [wI, wU, wC]) <;> exact rfl); dsimp only [S.put, optG]) | (apply Wp.condT; (simp only [push_cast, seval, getF (hF c), getF0 (hF c), get7, lentR_len, getF0 hT'm, List.getElem?_cons_zero, setF (hF c), set7, setF0 hT'm, List.set_cons_zero, h4, h4s, bA, mA] <;> (try simp (disch := omega) only [wI, wU, wC]) <;> exact rfl)) | (apply Wp.condF; (simp only [push_cast, seval, getF (hF c), getF0 (hF c), get7, lentR_len, getF0 hT'm, List.getElem?_cons_zero, setF (hF c), set7, setF0 hT'm, List.set_cons_zero, h4, h4s, bA, mA] <;> (try simp (disch := omega) only [wI, wU, wC]) <;> exact rfl)))
        (apply Wp.ret; (try dsimp only [sQ, tQ, bQ]); apply leaveA; exact rfl; (simp only [push_cast, seval, getF (hF c), getF0 (hF c), get7, lentR_len, getF0 hT'm, List.getElem?_cons_zero, setF (hF c), set7, setF0 hT'm, List.set_cons_zero, h4, h4s, bA, mA] <;> (try simp (disch := omega) only [wI, wU, wC]) <;> exact rfl); (focus (first | (simp only [push_cast, seval, getF (hF c), getF0 (hF c), get7, lentR_len, getF0 hT'm, List.getElem?_cons_zero, setF (hF c), set7, setF0 hT'm, List.set_cons_zero, h4, h4s, bA, mA]; done) | trivial | (simp only [push_cast, seval, getF (hF c), getF0 (hF c), get7, lentR_len, getF0 hT'm, List.getElem?_cons_zero, setF (hF c), set7, setF0 hT'm, List.set_cons_zero, h4, h4s, bA, mA]; trivial) | (simp; done))); (try simp only [push_cast, seval, getF (hF c), getF0 (hF c), get7, lentR_len, getF0 hT'm, List.getElem?_cons_zero, setF (hF c), set7, setF0 hT'm, List.set_cons_zero, h4, h4s, bA, mA]))
        exact .inl ⟨rfl, rfl, _, rfl⟩
      | some p =>
        obtain ⟨J, m⟩ := p
        obtain ⟨hJl, _, hm0, hm1⟩ := hrs rfl
        obtain ⟨a, J, rfl⟩ : ∃ a l, J = a :: l := by
          cases J with
          | nil => simp at hJl; omega
          | cons a l => exact ⟨a, l, rfl⟩
        dsimp only [S.put, optG]
        repeat (first | apply Wp.seq | apply Wp.block | (apply Run.next; (simp only [push_cast, seval, getF (hF c), getF0 (hF c), get7, lentR_len, getF0 hT'm, List.getElem?_cons_zero, setF (hF c), set7, setF0 hT'm, List.set_cons_zero, h4, h4s, bA, mA] <;> (try simp (disch := omega) only [wI, wU, wC]) <;> exact rfl); (focus ((try simp only [push_cast, seval, getF (hF c), getF0 (hF c), get7, lentR_len, getF0 hT'm, List.getElem?_cons_zero, setF (hF c), set7, setF0 hT'm, List.set_cons_zero, h4, h4s, bA, mA]) <;> exact sT))) | ((first | apply Run.nil | apply Wp.skip); dsimp only [sQ, tQ, bQ]) | (apply Wp.run; (dsimp only [List.map] <;> exact rfl); exact rfl) | (apply Wp.exit; dsimp only [sQ, tQ, bQ]; simp only [reduceIte]))
        refine Run.isNil (e := 3) (b := false) (by simp only [push_cast, seval, getF (hF c), getF0 (hF c), get7, lentR_len, getF0 hT'm, List.getElem?_cons_zero, setF (hF c), set7, setF0 hT'm, List.set_cons_zero, h4, h4s, bA, mA]) (by simp only [push_cast, seval, getF (hF c), getF0 (hF c), get7, lentR_len, getF0 hT'm, List.getElem?_cons_zero, setF (hF c), set7, setF0 hT'm, List.set_cons_zero, h4, h4s, bA, mA]; rfl) ?_
        dsimp only [putA]
        repeat (first | apply Wp.seq | apply Wp.block | (apply Run.next; (simp only [push_cast, seval, getF (hF c), getF0 (hF c), get7, lentR_len, getF0 hT'm, List.getElem?_cons_zero, setF (hF c), set7, setF0 hT'm, List.set_cons_zero, h4, h4s, bA, mA] <;> (try simp (disch := omega) only [wI, wU, wC]) <;> exact rfl); (focus ((try simp only [push_cast, seval, getF (hF c), getF0 (hF c), get7, lentR_len, getF0 hT'm, List.getElem?_cons_zero, setF (hF c), set7, setF0 hT'm, List.set_cons_zero, h4, h4s, bA, mA]) <;> exact sT))) | ((first | apply Run.nil | apply Wp.skip); dsimp only [sQ, tQ, bQ]) | (apply Wp.run; (dsimp only [List.map] <;> exact rfl); exact rfl) | (apply Wp.exit; dsimp only [sQ, tQ, bQ]; simp only [reduceIte]) | (apply Run.gtrue; (simp only [push_cast, seval, getF (hF c), getF0 (hF c), get7, lentR_len, getF0 hT'm, List.getElem?_cons_zero, setF (hF c), set7, setF0 hT'm, List.set_cons_zero, h4, h4s, bA, mA] <;> (try simp (disch := omega) only [wI, wU, wC]) <;> exact rfl); (simp only [push_cast, seval, getF (hF c), getF0 (hF c), get7, lentR_len, getF0 hT'm, List.getElem?_cons_zero, setF (hF c), set7, setF0 hT'm, List.set_cons_zero, h4, h4s, bA, mA] <;> (try simp (disch := omega) only [wI, wU, wC]) <;> exact rfl)) | (apply Run.gfalse (.bool false); (simp only [push_cast, seval, getF (hF c), getF0 (hF c), get7, lentR_len, getF0 hT'm, List.getElem?_cons_zero, setF (hF c), set7, setF0 hT'm, List.set_cons_zero, h4, h4s, bA, mA] <;> (try simp (disch := omega) only [wI, wU, wC]) <;> exact rfl); dsimp only [S.put, optG]) | (apply Wp.condT; (simp only [push_cast, seval, getF (hF c), getF0 (hF c), get7, lentR_len, getF0 hT'm, List.getElem?_cons_zero, setF (hF c), set7, setF0 hT'm, List.set_cons_zero, h4, h4s, bA, mA] <;> (try simp (disch := omega) only [wI, wU, wC]) <;> exact rfl)) | (apply Wp.condF; (simp only [push_cast, seval, getF (hF c), getF0 (hF c), get7, lentR_len, getF0 hT'm, List.getElem?_cons_zero, setF (hF c), set7, setF0 hT'm, List.set_cons_zero, h4, h4s, bA, mA] <;> (try simp (disch := omega) only [wI, wU, wC]) <;> exact rfl)))
        (apply Wp.runE 6 6 mixed; (dsimp only [List.map] <;> exact rfl); exact rfl; kernel_rfl; ((repeat (apply Abe.next; exact rfl; (simp only [push_cast, seval, getF (hF c), getF0 (hF c), get7, lentR_len, getF0 hT'm, List.getElem?_cons_zero, setF (hF c), set7, setF0 hT'm, List.set_cons_zero, h4, h4s, bA, mA] <;> (try simp (disch := omega) only [wI, wU, wC]) <;> exact rfl); (focus ((try simp only [push_cast, seval, getF (hF c), getF0 (hF c), get7, lentR_len, getF0 hT'm, List.getElem?_cons_zero, setF (hF c), set7, setF0 hT'm, List.set_cons_zero, h4, h4s, bA, mA]) <;> exact sT)))); (apply Abe.eff; exact rfl; (simp only [push_cast, seval, getF (hF c), getF0 (hF c), get7, lentR_len, getF0 hT'm, List.getElem?_cons_zero, setF (hF c), set7, setF0 hT'm, List.set_cons_zero, h4, h4s, bA, mA] <;> (try simp (disch := omega) only [wI, wU, wC]) <;> exact rfl); (focus ((try simp only [push_cast, seval, getF (hF c), getF0 (hF c), get7, lentR_len, getF0 hT'm, List.getElem?_cons_zero, setF (hF c), set7, setF0 hT'm, List.set_cons_zero, h4, h4s, bA, mA]) <;> exact sT)); (try dsimp only [putA])); exact Abe.nil))
        repeat (first | apply Wp.seq | apply Wp.block | (apply Run.next; (simp only [push_cast, seval, getF (hF c), getF0 (hF c), get7, lentR_len, getF0 hT'm, List.getElem?_cons_zero, setF (hF c), set7, setF0 hT'm, List.set_cons_zero, h4, h4s, bA, mA] <;> (try simp (disch := omega) only [wI, wU, wC]) <;> exact rfl); (focus ((try simp only [push_cast, seval, getF (hF c), getF0 (hF c), get7, lentR_len, getF0 hT'm, List.getElem?_cons_zero, setF (hF c), set7, setF0 hT'm, List.set_cons_zero, h4, h4s, bA, mA]) <;> exact sT))) | ((first | apply Run.nil | apply Wp.skip); dsimp only [sQ, tQ, bQ]) | (apply Wp.run; (dsimp only [List.map] <;> exact rfl); exact rfl) | (apply Wp.exit; dsimp only [sQ, tQ, bQ]; simp only [reduceIte]) | (apply Run.gtrue; (simp only [push_cast, seval, getF (hF c), getF0 (hF c), get7, lentR_len, getF0 hT'm, List.getElem?_cons_zero, setF (hF c), set7, setF0 hT'm, List.set_cons_zero, h4, h4s, bA, mA] <;> (try simp (disch := omega) only [wI, wU, wC]) <;> exact rfl); (simp only [push_cast, seval, getF (hF c), getF0 (hF c), get7, lentR_len, getF0 hT'm, List.getElem?_cons_zero, setF (hF c), set7, setF0 hT'm, List.set_cons_zero, h4, h4s, bA, mA] <;> (try simp (disch := omega) only [wI, wU, wC]) <;> exact rfl)) | (apply Run.gfalse (.bool false); (simp only [push_cast, seval, getF (hF c), getF0 (hF c), get7, lentR_len, getF0 hT'm, List.getElem?_cons_zero, setF (hF c), set7, setF0 hT'm, List.set_cons_zero, h4, h4s, bA, mA] <;> (try simp (disch := omega) only [wI, wU, wC]) <;> exact rfl); dsimp only [S.put, optG]) | (apply Wp.condT; (simp only [push_cast, seval, getF (hF c), getF0 (hF c), get7, lentR_len, getF0 hT'm, List.getElem?_cons_zero, setF (hF c), set7, setF0 hT'm, List.set_cons_zero, h4, h4s, bA, mA] <;> (try simp (disch := omega) only [wI, wU, wC]) <;> exact rfl)) | (apply Wp.condF; (simp only [push_cast, seval, getF (hF c), getF0 (hF c), get7, lentR_len, getF0 hT'm, List.getElem?_cons_zero, setF (hF c), set7, setF0 hT'm, List.set_cons_zero, h4, h4s, bA, mA] <;> (try simp (disch := omega) only [wI, wU, wC]) <;> exact rfl)))
        (apply Wp.ret; (try dsimp only [sQ, tQ, bQ]); apply leaveA; exact rfl; (simp only [push_cast, seval, getF (hF c), getF0 (hF c), get7, lentR_len, getF0 hT'm, List.getElem?_cons_zero, setF (hF c), set7, setF0 hT'm, List.set_cons_zero, h4, h4s, bA, mA] <;> (try simp (disch := omega) only [wI, wU, wC]) <;> exact rfl); (focus (first | (simp only [push_cast, seval, getF (hF c), getF0 (hF c), get7, lentR_len, getF0 hT'm, List.getElem?_cons_zero, setF (hF c), set7, setF0 hT'm, List.set_cons_zero, h4, h4s, bA, mA]; done) | trivial | (simp only [push_cast, seval, getF (hF c), getF0 (hF c), get7, lentR_len, getF0 hT'm, List.getElem?_cons_zero, setF (hF c), set7, setF0 hT'm, List.set_cons_zero, h4, h4s, bA, mA]; trivial) | (simp; done))); (try simp only [push_cast, seval, getF (hF c), getF0 (hF c), get7, lentR_len, getF0 hT'm, List.getElem?_cons_zero, setF (hF c), set7, setF0 hT'm, List.set_cons_zero, h4, h4s, bA, mA]))
        exact .inr ⟨a :: J, m, rfl, rfl, _, .ints (a :: J), _, _, _, _, _, rfl, rfl, rfl, fun _ => rfl⟩
end Go.Proofs.Try
set_option maxHeartbeats 8000000
namespace Go.Proofs.Try
open Go.Vg

/-! the plan, kind by kind -/
/-- the items of the kinds before k, and of the first q loans of the kind k -/
def plQ (ls : List Ln) (f : Nat → List Int) (k q : Nat) : List Int := (List.range ls.length).map fun i => if (ls.getD i ln0).kind < (k : Int) ∨ ((ls.getD i ln0).kind = (k : Int) ∧ plc ls (ls.getD i ln0).kind i < q) then (f (ls.getD i ln0).kind.toNat).getD (plc ls (ls.getD i ln0).kind i) 0 else 0
theorem plQ_len (ls : List Ln) (f : Nat → List Int) (k q : Nat) : (plQ ls f k q).length = ls.length := by simp [plQ]
theorem plQ_zero {ks : List St} {ls : List Ln} (hv : SV ks ls) (f : Nat → List Int) : plQ ls f 0 0 = List.replicate ls.length 0 := by
  apply List.ext_getElem (by simp [plQ])
  intro i h1 h2
  have hi : i < ls.length := by simpa [plQ] using h1
  have := (hv.ln i hi).1
  simp only [plQ, List.getElem_map, List.getElem_range, List.getElem_replicate]
  rw [if_neg (by omega)]
theorem plQ_next (ls : List Ln) (f : Nat → List Int) (k : Nat) : plQ ls f k (loanP ls (k : Int) ls.length).length = plQ ls f (k + 1) 0 := by
  apply List.ext_getElem (by simp [plQ])
  intro i h1 h2
  have hi : i < ls.length := by simpa [plQ] using h1
  simp only [plQ, List.getElem_map, List.getElem_range]
  by_cases hk : (ls.getD i ln0).kind = (k : Int)
  · have := (loanP_at (N := ls.length) hi hk).1
    rw [hk, if_pos (by right; exact ⟨rfl, this⟩), if_pos (by left; omega)]
  · by_cases hk2 : (ls.getD i ln0).kind < (k : Int)
    · rw [if_pos (.inl hk2), if_pos (by left; omega)]
    · rw [if_neg (by omega), if_neg (by omega)]
theorem plQ_set {ls : List Ln} (f : Nat → List Int) {k q : Nat} (hq : q < (loanP ls (k : Int) ls.length).length) : plQ ls f k (q + 1) = (plQ ls f k q).set ((loanP ls (k : Int) ls.length).getD q 0).toNat ((f k).getD q 0) := by
  obtain ⟨n, h1, h2, h3, h4⟩ := plc_at hq
  rw [h3, Int.toNat_natCast]
  apply List.ext_getElem (by simp [plQ])
  intro i h5 h6
  have hi : i < ls.length := by simpa [plQ] using h5
  rw [List.getElem_set]
  simp only [plQ, List.getElem_map, List.getElem_range]
  by_cases hin : n = i
  · subst hin
    rw [if_pos rfl, if_pos (by right; rw [h2]; exact ⟨rfl, by omega⟩), h2, h4, Int.toNat_natCast]
  · rw [if_neg hin]
    by_cases hk : (ls.getD i ln0).kind = (k : Int)
    · have hne : plc ls (k : Int) i ≠ q := fun he => by
        have h7 := (loanP_at (N := ls.length) hi hk).2
        rw [he, h3] at h7
        omega
      rw [hk]
      by_cases hp : plc ls (k : Int) i < q
      · rw [if_pos (by right; exact ⟨rfl, by omega⟩), if_pos (by right; exact ⟨rfl, hp⟩)]
      · rw [if_neg (by omega), if_neg (by omega)]
    · by_cases hk2 : (ls.getD i ln0).kind < (k : Int)
      · rw [if_pos (.inl hk2), if_pos (.inl hk2)]
      · rw [if_neg (by omega), if_neg (by omega)]
theorem plQ_end {ks : List St} {ls : List Ln} (hv : SV ks ls) (f : Nat → List Int) : plQ ls f ks.length 0 = glue ls f ls.length := by
  apply List.ext_getElem (by simp [plQ, glue])
  intro i h1 h2
  have hi : i < ls.length := by simpa [plQ] using h1
  have := (hv.ln i hi).1
  simp only [plQ, glue, List.getElem_map, List.getElem_range]
  rw [if_pos (by left; omega)]
end Go.Proofs.Try
set_option maxHeartbeats 8000000
namespace Go.Proofs.Try
open Go.Vg

/-! a repair, kind by kind -/
/-- what the caller lends -/
def rM (a0 a1 a2 a3 : Ent) (c : Int) (R : Mem) : Mem := a0 :: a1 :: a2 :: a3 :: ⟨0, .row 1 [.int c]⟩ :: R
section
variable (a0 a1 a2 a3 : Ent)
/-- the memory in front of the benches -/
def rF (c : Int) (e0 e2 : Ent) (G : Mem) (r : List Int) : Mem := rM a0 a1 a2 a3 c (e0 :: ⟨0, .row 1 (r.map AV.int)⟩ :: e2 :: G)
theorem rF_len (c : Int) (e0 e2 : Ent) (G : Mem) (r : List Int) : (rF a0 a1 a2 a3 c e0 e2 G r).length = G.length + 8 := rfl
theorem rF_5 (c : Int) (e0 e2 : Ent) (G : Mem) (r : List Int) : (rF a0 a1 a2 a3 c e0 e2 G r)[5]? = some e0 := rfl
theorem rF_6 (c : Int) (e0 e2 : Ent) (G : Mem) (r : List Int) : (rF a0 a1 a2 a3 c e0 e2 G r)[6]? = some ⟨0, .row 1 (r.map AV.int)⟩ := rfl
theorem rF_7 (c : Int) (e0 e2 : Ent) (G : Mem) (r : List Int) : (rF a0 a1 a2 a3 c e0 e2 G r)[7]? = some e2 := rfl
theorem rF_s7 (c : Int) (e0 e2 e : Ent) (G : Mem) (r : List Int) : (rF a0 a1 a2 a3 c e0 e2 G r).set 7 e = rF a0 a1 a2 a3 c e0 e G r := rfl
theorem rFa_5 (c : Int) (e0 e2 : Ent) (G B : Mem) (r : List Int) : (rF a0 a1 a2 a3 c e0 e2 G r ++ B)[5]? = some e0 := rfl
theorem rFa_6 (c : Int) (e0 e2 : Ent) (G B : Mem) (r : List Int) : (rF a0 a1 a2 a3 c e0 e2 G r ++ B)[6]? = some ⟨0, .row 1 (r.map AV.int)⟩ := rfl
theorem rFa_7 (c : Int) (e0 e2 : Ent) (G B : Mem) (r : List Int) : (rF a0 a1 a2 a3 c e0 e2 G r ++ B)[7]? = some e2 := rfl
theorem rF_app (c : Int) (e0 e2 : Ent) (G B : Mem) (r : List Int) : rF a0 a1 a2 a3 c e0 e2 G r ++ B = rF a0 a1 a2 a3 c e0 e2 (G ++ B) r := rfl
end
/-- how many loans change, in the kinds before k -/
def chK (ks : List St) (ls : List Ln) (pl : List Int) (kind lost : Int) : Nat → Int
  | 0 => 0
  | k + 1 => chK ks ls pl kind lost k + mA (rpK ks ls pl kind lost k)
theorem chK_bd {ks : List St} {ls : List Ln} (hl : ls.length ≤ 20) (pl : List Int) (kind lost : Int) : ∀ k : Nat, 0 ≤ chK ks ls pl kind lost k ∧ chK ks ls pl kind lost k ≤ 20 * (k : Int)
  | 0 => by simp [chK]
  | k + 1 => by
    have := chK_bd (ks := ks) hl pl kind lost k
    have h2 : 0 ≤ mA (rpK ks ls pl kind lost k) ∧ mA (rpK ks ls pl kind lost k) ≤ 20 := by
      cases h : rpK ks ls pl kind lost k with
      | none => simp [mA]
      | some p =>
        obtain ⟨J, m⟩ := p
        obtain ⟨h1, _, h3, h4⟩ := rpK_some h
        have := loanP_len ls (k : Int) ls.length
        show 0 ≤ m ∧ m ≤ 20
        omega
    simp only [chK]; omega
def rpJ : Bs → List Int
  | none => []
  | some (J, _) => J
def rpF (ks : List St) (ls : List Ln) (pl : List Int) (kind lost : Int) (k : Nat) : List Int := rpJ (rpK ks ls pl kind lost k)
abbrev repC (pl : List Int) (kind lost : Int) : AV := .clo 74 [.ref [.ints pl] 0, .ref [.int kind] 0, .ref [.int lost] 0, .optr 4 0 0 0]
def EachRQ (ks : List St) (ls : List Ln) (pl : List Int) (kind lost : Int) (a0 a1 a2 a3 : Ent) (x : AV) (m' : Mem) : Prop :=
  ∃ c R, m' = rM a0 a1 a2 a3 c R ∧ (((∃ k, k < ks.length ∧ rpK ks ls pl kind lost k = none) ∧ x = .nil) ∨ ((∀ k, k < ks.length → (rpK ks ls pl kind lost k).isSome = true) ∧ c = chK ks ls pl kind lost ks.length ∧ ((ls ≠ [] ∧ x = .ints (glue ls (rpF ks ls pl kind lost) ls.length)) ∨ (ls = [] ∧ ∃ A, x = .non A))))
theorem eachR_spec {ks : List St} {ls : List Ln} (hv : SV ks ls) {pl : List Int} (hpl : pl.length = ls.length) (kind lost : Int) (a0 a1 a2 a3 : Ent) : Go.Vg.Spec Try.prog 55 [storA ks ls, repC pl kind lost] (rM a0 a1 a2 a3 0 []) (EachRQ ks ls pl kind lost a0 a1 a2 a3) := by
  have hl20 := hv.l20
  have hk8 := hv.k8
  have hcb := chK_bd (ks := ks) hl20 pl kind lost
  have hcs : ∀ k, chK ks ls pl kind lost (k + 1) = chK ks ls pl kind lost k + mA (rpK ks ls pl kind lost k) := fun _ => rfl
  have hc0 : chK ks ls pl kind lost 0 = 0 := rfl
  have hQn : ∀ {k c R}, k < ks.length → rpK ks ls pl kind lost k = none → EachRQ ks ls pl kind lost a0 a1 a2 a3 .nil (rM a0 a1 a2 a3 c R) := fun hk h => ⟨_, _, rfl, .inl ⟨⟨_, hk, h⟩, rfl⟩⟩
  by_cases hls : ls = []
  · subst hls
    have hQs : ∀ A {R}, (∀ k, k < ks.length → (rpK ks [] pl kind lost k).isSome = true) → EachRQ ks [] pl kind lost a0 a1 a2 a3 (.non A) (rM a0 a1 a2 a3 (chK ks [] pl kind lost ks.length) R) := fun A {R} h => ⟨_, _, rfl, .inr ⟨h, rfl, .inr ⟨rfl, A, rfl⟩⟩⟩
    generalize EachRQ ks [] pl kind lost a0 a1 a2 a3 = Q at hQn hQs
    (refine Spec.of_bodyA Try.func55 rfl (by rw [Try.ntmps55]; simp) ?_; rw [Try.results55, Try.ntmps55]; simp only [entry, zipArgs, Nat.reduceAdd])
    repeat (first | apply Wp.seq | apply Wp.block)
    (apply Wp.run; (dsimp only [List.map] <;> exact rfl); exact rfl)
    (apply Run.next; (simp only [push_cast, seval] <;> (try simp (disch := omega) only [wI, wU, wC]) <;> exact rfl); (focus ((try simp only [push_cast, seval]) <;> exact sT)))
    repeat (first | apply Wp.seq | apply Wp.block | (apply Run.calm; exact rfl; (simp only [push_cast, seval] <;> (try simp (disch := omega) only [wI, wU, wC]) <;> exact rfl); (focus ((try simp only [push_cast, seval]) <;> exact sT))) | ((first | apply Run.nil | apply Wp.skip); dsimp only [sQ, tQ, bQ]) | (apply Wp.run; (dsimp only [List.map] <;> exact rfl); exact rfl) | (apply Wp.exit; dsimp only [sQ, tQ, bQ]; simp only [reduceIte]))
    refine Run.make0 (e := 3) (z := .int 0) (by simp only [push_cast, seval]) (by simp only [push_cast, seval]) (by simp only [push_cast, seval]) (by simp only [push_cast, seval]) (by simp only [push_cast, seval]) fun A => ?_
    have hQs := fun {R} => hQs A (R := R)
    dsimp only [putA]
    repeat (first | apply Wp.seq | apply Wp.block | (apply Run.next; (simp only [push_cast, seval] <;> (try simp (disch := omega) only [wI, wU, wC]) <;> exact rfl); (focus ((try simp only [push_cast, seval]) <;> exact sT))) | ((first | apply Run.nil | apply Wp.skip); dsimp only [sQ, tQ, bQ]) | (apply Wp.run; (dsimp only [List.map] <;> exact rfl); exact rfl) | (apply Wp.exit; dsimp only [sQ, tQ, bQ]; simp only [reduceIte]))
    (refine Wp.vacs 2 ?_; (try simp only [List.replicate_succ, List.replicate_zero, List.cons_append, List.nil_append]))
    refine Wp.loop (fun (q : Nat × Nat × Kind × Mem) => { t := [(1, repC pl kind lost), (2, .optr 5 0 0 0), (5, .non A), (16, .lst 2 (ks.map stA)), (17, .int ks.length), (18, .int q.1)], m := rF a0 a1 a2 a3 (chK ks [] pl kind lost q.1) ⟨0, .row 2 [storA ks []]⟩ ⟨q.2.1, q.2.2.1⟩ q.2.2.2 [], n := 56 }) (fun q => q.1 ≤ ks.length ∧ ∀ k, k < q.1 → (rpK ks [] pl kind lost k).isSome = true) (fun q => ks.length - q.1) (0, 0, .row 1 [], []) ?_ ?_ ?_
    · (refine Le.of ?_ ?_ rfl rfl <;> (try simp only [push_cast, seval]) <;> (try (with_reducible rfl)))
      all_goals first | rfl | exact ⟨rfl, rfl⟩
    · simp
    · rintro ⟨k, v, kd, G⟩ ⟨hk1, hk2⟩
      simp only at hk1 hk2
      have hcbk := hcb k
      have hcsk := hcs k
      generalize hck : chK ks [] pl kind lost k = c at hcbk hcsk
      repeat (first | apply Wp.seq | apply Wp.block | (apply Run.calm; exact rfl; (simp only [push_cast, seval] <;> (try simp (disch := omega) only [wI, wU, wC]) <;> exact rfl); (focus ((try simp only [push_cast, seval]) <;> exact sT))) | ((first | apply Run.nil | apply Wp.skip); dsimp only [sQ, tQ, bQ]) | (apply Wp.run; (dsimp only [List.map] <;> exact rfl); exact rfl) | (apply Wp.exit; dsimp only [sQ, tQ, bQ]; simp only [reduceIte]))
      (apply Wp.cond; (simp only [push_cast, seval] <;> (try simp (disch := omega) only [wI, wU, wC]) <;> exact rfl))
      · intro hc
        simp only [decide_eq_true_eq, Int.ofNat_lt] at hc
        have hs := hv.st k hc
        have hnb := newBench_spec hv (k : Int) (ks.getD k st0).items (by omega) (by omega)
        rw [Int.toNat_natCast] at hnb
        have hdo := fun (F : Int → Mem) (N : Nat) (hF : ∀ c, (F c).length = N) h4 h4s (e4 : Ent) => repairDo_spec hv hc (F := F) hF h4 h4s (c := c) (by omega) hpl kind lost ⟨0, .row 2 [storA ks []]⟩ e4
        generalize hy : ks.getD k st0 = y at hs hnb hdo
        repeat (first | apply Wp.seq | apply Wp.block | (apply Run.calm; exact rfl; (simp only [push_cast, seval, hy, rF_len, rF_5, rF_6, rF_7, rF_s7] <;> (try simp (disch := omega) only [wI, wU, wC]) <;> exact rfl); (focus ((try simp only [push_cast, seval, hy, rF_len, rF_5, rF_6, rF_7, rF_s7]) <;> exact sT))) | ((first | apply Run.nil | apply Wp.skip); dsimp only [sQ, tQ, bQ]) | (apply Wp.run; (dsimp only [List.map] <;> exact rfl); exact rfl) | (apply Wp.exit; dsimp only [sQ, tQ, bQ]; simp only [reduceIte]))
        (apply Run.alcAt 7; (simp only [push_cast, seval, hy, rF_len, rF_5, rF_6, rF_7, rF_s7] <;> (try simp (disch := omega) only [wI, wU, wC]) <;> exact rfl); (focus ((try simp only [push_cast, seval, hy, rF_len, rF_5, rF_6, rF_7, rF_s7]) <;> exact sT)); exact rfl; (try simp only [push_cast, seval, hy, rF_len, rF_5, rF_6, rF_7, rF_s7]))
        repeat (first | apply Wp.seq | apply Wp.block | (apply Run.calm; exact rfl; (simp only [push_cast, seval, hy, rF_len, rF_5, rF_6, rF_7, rF_s7] <;> (try simp (disch := omega) only [wI, wU, wC]) <;> exact rfl); (focus ((try simp only [push_cast, seval, hy, rF_len, rF_5, rF_6, rF_7, rF_s7]) <;> exact sT))) | ((first | apply Run.nil | apply Wp.skip); dsimp only [sQ, tQ, bQ]) | (apply Wp.run; (dsimp only [List.map] <;> exact rfl); exact rfl) | (apply Wp.exit; dsimp only [sQ, tQ, bQ]; simp only [reduceIte]))
        apply Run.fresh (he := Enters.of Try.func67 rfl rfl)
        focus (simp only [push_cast, seval, hy, rF_len, rF_5, rF_6, rF_7, rF_s7] <;> exact rfl)
        focus (simp only [push_cast, seval, hy, rF_len, rF_5, rF_6, rF_7, rF_s7] <;> (try simp (disch := omega) only [wI, wU, wC]) <;> exact rfl)
        exact hnb
        focus (focus (simp only [push_cast, seval, hy, rF_len, rF_5, rF_6, rF_7, rF_s7] <;> first | trivial | assumption | (refine ⟨?_, ?_⟩ <;> assumption) | (simp; done)))
        rintro x m' ⟨rfl, e4, rfl⟩
        have hsh := blk_shift (G.length + 8) (ks := ks) (ls := []) (e4 := e4) (life := y.life) (L := loanP [] k ([] : List Ln).length) (vi := 0) (I := []) (W := List.replicate y.items.toNat 0) (T := T0 y.items.toNat)
        simp only [shE] at hsh
        simp only [rF_len]
        rw [hsh]
        generalize hE4 : (⟨e4.ver, e4.kind.shift (G.length + 8)⟩ : Ent) = e5
        dsimp only [AV.shift]
        have hFl : ∀ (c : Int) (e2 : Ent) (r : List Int), (rF a0 a1 a2 a3 c ⟨0, .row 2 [storA ks []]⟩ e2 G r).length = G.length + 8 := fun _ _ _ => rfl
        generalize hN : G.length + 8 = N at hFl
        have hg := fun (c : Int) (e2 : Ent) (r : List Int) (l : Mem) (i : Nat) => getF (l := l) (hFl c e2 r) i
        have hg0 := fun (c : Int) (e2 : Ent) (r : List Int) (l : Mem) => getF0 (l := l) (hFl c e2 r)
        dsimp only [S.put, optG]
        repeat (first | apply Wp.seq | apply Wp.block | (apply Run.next; (simp only [push_cast, seval, hy, rF_len, rF_5, rF_6, rF_7, rF_s7] <;> (try simp (disch := omega) only [wI, wU, wC]) <;> exact rfl); (focus ((try simp only [push_cast, seval, hy, rF_len, rF_5, rF_6, rF_7, rF_s7]) <;> exact sT))) | ((first | apply Run.nil | apply Wp.skip); dsimp only [sQ, tQ, bQ]) | (apply Wp.run; (dsimp only [List.map] <;> exact rfl); exact rfl) | (apply Wp.exit; dsimp only [sQ, tQ, bQ]; simp only [reduceIte]))
        apply Run.spec (he := Enters.of Try.func74 rfl rfl) (hc := hdo (fun c => rF a0 a1 a2 a3 c ⟨0, .row 2 [storA ks []]⟩ ⟨v + 1, .row 2 [stA y]⟩ G []) N (fun c => hFl c _ _) (fun _ _ => rfl) (fun _ _ _ => rfl) e5)
        focus exact rfl
        focus (simp only [push_cast, seval, hy, rF_len, rF_5, rF_6, rF_7, rF_s7] <;> exact rfl)
        focus (simp only [push_cast, seval, hy, rF_len, rF_5, rF_6, rF_7, rF_s7] <;> (try simp (disch := omega) only [wI, wU, wC]) <;> exact rfl)
        rintro x' m' (⟨h1, rfl, B, rfl⟩ | ⟨J, m, h1, rfl, B, b, x0, x1, x2, x5, x6, rfl, hB3, hB5, hb⟩)
        · dsimp only [S.put, optG]
          (apply Run.next; (simp only [push_cast, seval, hy, rF_len, rF_5, rF_6, rF_7, rF_s7] <;> (try simp (disch := omega) only [wI, wU, wC]) <;> exact rfl); (focus ((try simp only [push_cast, seval, hy, rF_len, rF_5, rF_6, rF_7, rF_s7]) <;> exact sT)))
          (apply Run.nil; dsimp only [sQ, tQ, bQ])
          (apply Wp.condT; (simp only [push_cast, seval, hy, rF_len, rF_5, rF_6, rF_7, rF_s7] <;> (try simp (disch := omega) only [wI, wU, wC]) <;> exact rfl))
          repeat (first | apply Wp.seq | apply Wp.block)
          (apply Wp.run; (dsimp only [List.map] <;> exact rfl); exact rfl)
          (apply Run.nilc; (try dsimp only [putA]))
          (apply Run.nil; dsimp only [sQ, tQ, bQ])
          (apply Wp.ret; (try dsimp only [sQ, tQ, bQ]); apply leaveA; exact rfl; (simp only [push_cast, seval, hy, rF_len, rF_5, rF_6, rF_7, rF_s7] <;> (try simp (disch := omega) only [wI, wU, wC]) <;> exact rfl); (focus (first | (simp only [push_cast, seval, hy, rF_len, rF_5, rF_6, rF_7, rF_s7]; done) | trivial | (simp only [push_cast, seval, hy, rF_len, rF_5, rF_6, rF_7, rF_s7]; trivial) | (simp; done))); (try simp only [push_cast, seval, hy, rF_len, rF_5, rF_6, rF_7, rF_s7]))
          exact hQn hc h1
        · rw [show mA (rpK ks [] pl kind lost k) = m by rw [h1]; rfl] at hcsk
          rw [show loanP ([] : List Ln) (k : Int) ([] : List Ln).length = [] from rfl] at hB3 hB5
          dsimp only [S.put, optG]
          repeat (first | apply Wp.seq | apply Wp.block | (apply Run.next; (simp only [push_cast, seval, hy, rFa_5, rFa_6, rFa_7, hg, hg0, hB3, hB5] <;> (try simp (disch := omega) only [wI, wU, wC]) <;> exact rfl); (focus ((try simp only [push_cast, seval, hy, rFa_5, rFa_6, rFa_7, hg, hg0, hB3, hB5]) <;> exact sT))) | ((first | apply Run.nil | apply Wp.skip); dsimp only [sQ, tQ, bQ]) | (apply Wp.run; (dsimp only [List.map] <;> exact rfl); exact rfl) | (apply Wp.exit; dsimp only [sQ, tQ, bQ]; simp only [reduceIte]) | (apply Run.gtrue; (simp only [push_cast, seval, hy, rFa_5, rFa_6, rFa_7, hg, hg0, hB3, hB5] <;> (try simp (disch := omega) only [wI, wU, wC]) <;> exact rfl); (simp only [push_cast, seval, hy, rFa_5, rFa_6, rFa_7, hg, hg0, hB3, hB5] <;> (try simp (disch := omega) only [wI, wU, wC]) <;> exact rfl)) | (apply Run.gfalse (.bool false); (simp only [push_cast, seval, hy, rFa_5, rFa_6, rFa_7, hg, hg0, hB3, hB5] <;> (try simp (disch := omega) only [wI, wU, wC]) <;> exact rfl); dsimp only [S.put, optG]) | (apply Wp.condT; (simp only [push_cast, seval, hy, rFa_5, rFa_6, rFa_7, hg, hg0, hB3, hB5] <;> (try simp (disch := omega) only [wI, wU, wC]) <;> exact rfl)) | (apply Wp.condF; (simp only [push_cast, seval, hy, rFa_5, rFa_6, rFa_7, hg, hg0, hB3, hB5] <;> (try simp (disch := omega) only [wI, wU, wC]) <;> exact rfl)))
          refine Wp.loop (fun (_ : Nat) => { t := [(1, repC pl kind lost), (2, .optr 5 0 0 0), (5, .non A), (8, .optr (N + 3) 1 0 0), (16, .lst 2 (ks.map stA)), (17, .int ks.length), (18, .int k), (36, .osl (N + 5) 0 0 0), (37, .int 0), (38, .int 0)], m := rF a0 a1 a2 a3 (c + m) ⟨0, .row 2 [storA ks []]⟩ ⟨v + 1, .row 2 [stA y]⟩ G [] ++ B, n := 56 }) (fun _ => True) (fun _ => 0) 0 ?_ ?_ ?_
          · (refine Le.of ?_ ?_ rfl rfl <;> (try simp only [push_cast, seval, hy, rFa_5, rFa_6, rFa_7, hg, hg0, hB3, hB5]) <;> (try (with_reducible rfl)))
          · trivial
          · intro q hq1
            repeat (first | apply Wp.seq | apply Wp.block | (apply Run.next; (simp only [push_cast, seval, hy, rFa_5, rFa_6, rFa_7, hg, hg0, hB3, hB5] <;> (try simp (disch := omega) only [wI, wU, wC]) <;> exact rfl); (focus ((try simp only [push_cast, seval, hy, rFa_5, rFa_6, rFa_7, hg, hg0, hB3, hB5]) <;> exact sT))) | ((first | apply Run.nil | apply Wp.skip); dsimp only [sQ, tQ, bQ]) | (apply Wp.run; (dsimp only [List.map] <;> exact rfl); exact rfl) | (apply Wp.exit; dsimp only [sQ, tQ, bQ]; simp only [reduceIte]))
            (apply Wp.cond; (simp only [push_cast, seval, hy, rFa_5, rFa_6, rFa_7, hg, hg0, hB3, hB5] <;> (try simp (disch := omega) only [wI, wU, wC]) <;> exact rfl))
            · intro hcq
              simp at hcq
            · intro hcq
              repeat (first | apply Wp.seq | apply Wp.block | (apply Run.next; (simp only [push_cast, seval, hy, rFa_5, rFa_6, rFa_7, hg, hg0, hB3, hB5] <;> (try simp (disch := omega) only [wI, wU, wC]) <;> exact rfl); (focus ((try simp only [push_cast, seval, hy, rFa_5, rFa_6, rFa_7, hg, hg0, hB3, hB5]) <;> exact sT))) | ((first | apply Run.nil | apply Wp.skip); dsimp only [sQ, tQ, bQ]) | (apply Wp.run; (dsimp only [List.map] <;> exact rfl); exact rfl) | (apply Wp.exit; dsimp only [sQ, tQ, bQ]; simp only [reduceIte]))
              refine ⟨(k + 1, v + 1, .row 2 [stA y], G ++ B), ?_, ⟨by simp only; omega, fun i hi => ?_⟩, by simp only; omega⟩
              · simp only
                rw [← rF_app, hcsk]
                (refine Le.of ?_ ?_ rfl rfl <;> (try simp only [push_cast, seval, hy, rFa_5, rFa_6, rFa_7, hg, hg0, hB3, hB5]) <;> (try (with_reducible rfl)))
              · simp only at hi
                by_cases hik : i = k
                · rw [hik, h1]; rfl
                · exact hk2 i (by omega)
      · intro hc
        simp only [decide_eq_false_iff_not, Int.ofNat_lt] at hc
        obtain rfl : k = ks.length := by omega
        repeat (first | apply Wp.seq | apply Wp.block | (apply Run.next; (simp only [push_cast, seval] <;> (try simp (disch := omega) only [wI, wU, wC]) <;> exact rfl); (focus ((try simp only [push_cast, seval]) <;> exact sT))) | ((first | apply Run.nil | apply Wp.skip); dsimp only [sQ, tQ, bQ]) | (apply Wp.run; (dsimp only [List.map] <;> exact rfl); exact rfl) | (apply Wp.exit; dsimp only [sQ, tQ, bQ]; simp only [reduceIte]))
        (apply Wp.ret; (try dsimp only [sQ, tQ, bQ]); apply leaveA; exact rfl; (simp only [push_cast, seval] <;> (try simp (disch := omega) only [wI, wU, wC]) <;> exact rfl); (focus (first | (simp only [push_cast, seval]; done) | trivial | (simp only [push_cast, seval]; trivial) | (simp; done))); (try simp only [push_cast, seval]))
        rw [← hck]
        exact hQs hk2
  · have hQs : ∀ {R}, (∀ k, k < ks.length → (rpK ks ls pl kind lost k).isSome = true) → EachRQ ks ls pl kind lost a0 a1 a2 a3 (.ints (glue ls (rpF ks ls pl kind lost) ls.length)) (rM a0 a1 a2 a3 (chK ks ls pl kind lost ks.length) R) := fun {R} h => ⟨_, _, rfl, .inr ⟨h, rfl, .inl ⟨hls, rfl⟩⟩⟩
    have hpos : 0 < ls.length := List.length_pos_iff.2 hls
    generalize EachRQ ks ls pl kind lost a0 a1 a2 a3 = Q at hQn hQs
    generalize hf : rpF ks ls pl kind lost = f at hQs
    (refine Spec.of_bodyA Try.func55 rfl (by rw [Try.ntmps55]; simp) ?_; rw [Try.results55, Try.ntmps55]; simp only [entry, zipArgs, Nat.reduceAdd])
    repeat (first | apply Wp.seq | apply Wp.block | (apply Run.next; (simp only [push_cast, seval] <;> (try simp (disch := omega) only [wI, wU, wC]) <;> exact rfl); (focus ((try simp only [push_cast, seval]) <;> exact sT))) | ((first | apply Run.nil | apply Wp.skip); dsimp only [sQ, tQ, bQ]) | (apply Wp.run; (dsimp only [List.map] <;> exact rfl); exact rfl) | (apply Wp.exit; dsimp only [sQ, tQ, bQ]; simp only [reduceIte]))
    (refine Wp.vacs 1 ?_; (try simp only [List.replicate_succ, List.replicate_zero, List.cons_append, List.nil_append]))
    refine Wp.loop (fun (q : Nat × Nat × Kind × Mem) => { t := [(1, repC pl kind lost), (2, .optr 5 0 0 0), (5, .osl 6 0 0 ls.length), (16, .lst 2 (ks.map stA)), (17, .int ks.length), (18, .int q.1)], m := rF a0 a1 a2 a3 (chK ks ls pl kind lost q.1) ⟨0, .row 2 [storA ks ls]⟩ ⟨q.2.1, q.2.2.1⟩ q.2.2.2 (plQ ls f q.1 0), n := 56 }) (fun q => q.1 ≤ ks.length ∧ ∀ k, k < q.1 → (rpK ks ls pl kind lost k).isSome = true) (fun q => ks.length - q.1) (0, 0, .row 1 [], []) ?_ ?_ ?_
    · rw [plQ_zero hv]
      (refine Le.of ?_ ?_ rfl rfl <;> (try simp only [push_cast, seval]) <;> (try (with_reducible rfl)))
      all_goals first | rfl | exact ⟨rfl, rfl⟩
    · simp
    · rintro ⟨k, v, kd, G⟩ ⟨hk1, hk2⟩
      simp only at hk1 hk2
      have hcbk := hcb k
      have hcsk := hcs k
      generalize hck : chK ks ls pl kind lost k = c at hcbk hcsk
      have hql := plQ_len ls f k 0
      repeat (first | apply Wp.seq | apply Wp.block | (apply Run.calm; exact rfl; (simp only [push_cast, seval] <;> (try simp (disch := omega) only [wI, wU, wC]) <;> exact rfl); (focus ((try simp only [push_cast, seval]) <;> exact sT))) | ((first | apply Run.nil | apply Wp.skip); dsimp only [sQ, tQ, bQ]) | (apply Wp.run; (dsimp only [List.map] <;> exact rfl); exact rfl) | (apply Wp.exit; dsimp only [sQ, tQ, bQ]; simp only [reduceIte]))
      (apply Wp.cond; (simp only [push_cast, seval] <;> (try simp (disch := omega) only [wI, wU, wC]) <;> exact rfl))
      · intro hc
        simp only [decide_eq_true_eq, Int.ofNat_lt] at hc
        have hs := hv.st k hc
        have hnb := newBench_spec hv (k : Int) (ks.getD k st0).items (by omega) (by omega)
        rw [Int.toNat_natCast] at hnb
        have hdo := fun (F : Int → Mem) (N : Nat) (hF : ∀ c, (F c).length = N) h4 h4s (e4 : Ent) => repairDo_spec hv hc (F := F) hF h4 h4s (c := c) (by omega) hpl kind lost ⟨0, .row 2 [storA ks ls]⟩ e4
        generalize hy : ks.getD k st0 = y at hs hnb hdo
        repeat (first | apply Wp.seq | apply Wp.block | (apply Run.calm; exact rfl; (simp only [push_cast, seval, hy, rF_len, rF_5, rF_6, rF_7, rF_s7] <;> (try simp (disch := omega) only [wI, wU, wC]) <;> exact rfl); (focus ((try simp only [push_cast, seval, hy, rF_len, rF_5, rF_6, rF_7, rF_s7]) <;> exact sT))) | ((first | apply Run.nil | apply Wp.skip); dsimp only [sQ, tQ, bQ]) | (apply Wp.run; (dsimp only [List.map] <;> exact rfl); exact rfl) | (apply Wp.exit; dsimp only [sQ, tQ, bQ]; simp only [reduceIte]))
        (apply Run.alcAt 7; (simp only [push_cast, seval, hy, rF_len, rF_5, rF_6, rF_7, rF_s7] <;> (try simp (disch := omega) only [wI, wU, wC]) <;> exact rfl); (focus ((try simp only [push_cast, seval, hy, rF_len, rF_5, rF_6, rF_7, rF_s7]) <;> exact sT)); exact rfl; (try simp only [push_cast, seval, hy, rF_len, rF_5, rF_6, rF_7, rF_s7]))
        repeat (first | apply Wp.seq | apply Wp.block | (apply Run.calm; exact rfl; (simp only [push_cast, seval, hy, rF_len, rF_5, rF_6, rF_7, rF_s7] <;> (try simp (disch := omega) only [wI, wU, wC]) <;> exact rfl); (focus ((try simp only [push_cast, seval, hy, rF_len, rF_5, rF_6, rF_7, rF_s7]) <;> exact sT))) | ((first | apply Run.nil | apply Wp.skip); dsimp only [sQ, tQ, bQ]) | (apply Wp.run; (dsimp only [List.map] <;> exact rfl); exact rfl) | (apply Wp.exit; dsimp only [sQ, tQ, bQ]; simp only [reduceIte]))
        apply Run.fresh (he := Enters.of Try.func67 rfl rfl)
        focus (simp only [push_cast, seval, hy, rF_len, rF_5, rF_6, rF_7, rF_s7] <;> exact rfl)
        focus (simp only [push_cast, seval, hy, rF_len, rF_5, rF_6, rF_7, rF_s7] <;> (try simp (disch := omega) only [wI, wU, wC]) <;> exact rfl)
        exact hnb
        focus (focus (simp only [push_cast, seval, hy, rF_len, rF_5, rF_6, rF_7, rF_s7] <;> first | trivial | assumption | (refine ⟨?_, ?_⟩ <;> assumption) | (simp; done)))
        rintro x m' ⟨rfl, e4, rfl⟩
        have hsh := blk_shift (G.length + 8) (ks := ks) (ls := ls) (e4 := e4) (life := y.life) (L := loanP ls k ls.length) (vi := 0) (I := []) (W := List.replicate y.items.toNat 0) (T := T0 y.items.toNat)
        simp only [shE] at hsh
        simp only [rF_len]
        rw [hsh]
        generalize hE4 : (⟨e4.ver, e4.kind.shift (G.length + 8)⟩ : Ent) = e5
        dsimp only [AV.shift]
        have hFl : ∀ (c : Int) (e2 : Ent) (r : List Int), (rF a0 a1 a2 a3 c ⟨0, .row 2 [storA ks ls]⟩ e2 G r).length = G.length + 8 := fun _ _ _ => rfl
        generalize hN : G.length + 8 = N at hFl
        have hg := fun (c : Int) (e2 : Ent) (r : List Int) (l : Mem) (i : Nat) => getF (l := l) (hFl c e2 r) i
        have hg0 := fun (c : Int) (e2 : Ent) (r : List Int) (l : Mem) => getF0 (l := l) (hFl c e2 r)
        dsimp only [S.put, optG]
        repeat (first | apply Wp.seq | apply Wp.block | (apply Run.next; (simp only [push_cast, seval, hy, rF_len, rF_5, rF_6, rF_7, rF_s7] <;> (try simp (disch := omega) only [wI, wU, wC]) <;> exact rfl); (focus ((try simp only [push_cast, seval, hy, rF_len, rF_5, rF_6, rF_7, rF_s7]) <;> exact sT))) | ((first | apply Run.nil | apply Wp.skip); dsimp only [sQ, tQ, bQ]) | (apply Wp.run; (dsimp only [List.map] <;> exact rfl); exact rfl) | (apply Wp.exit; dsimp only [sQ, tQ, bQ]; simp only [reduceIte]))
        apply Run.spec (he := Enters.of Try.func74 rfl rfl) (hc := hdo (fun c => rF a0 a1 a2 a3 c ⟨0, .row 2 [storA ks ls]⟩ ⟨v + 1, .row 2 [stA y]⟩ G (plQ ls f k 0)) N (fun c => hFl c _ _) (fun _ _ => rfl) (fun _ _ _ => rfl) e5)
        focus exact rfl
        focus (simp only [push_cast, seval, hy, rF_len, rF_5, rF_6, rF_7, rF_s7] <;> exact rfl)
        focus (simp only [push_cast, seval, hy, rF_len, rF_5, rF_6, rF_7, rF_s7] <;> (try simp (disch := omega) only [wI, wU, wC]) <;> exact rfl)
        rintro x' m' (⟨h1, rfl, B, rfl⟩ | ⟨J, m, h1, rfl, B, b, x0, x1, x2, x5, x6, rfl, hB3, hB5, hb⟩)
        · dsimp only [S.put, optG]
          (apply Run.next; (simp only [push_cast, seval, hy, rF_len, rF_5, rF_6, rF_7, rF_s7] <;> (try simp (disch := omega) only [wI, wU, wC]) <;> exact rfl); (focus ((try simp only [push_cast, seval, hy, rF_len, rF_5, rF_6, rF_7, rF_s7]) <;> exact sT)))
          (apply Run.nil; dsimp only [sQ, tQ, bQ])
          (apply Wp.condT; (simp only [push_cast, seval, hy, rF_len, rF_5, rF_6, rF_7, rF_s7] <;> (try simp (disch := omega) only [wI, wU, wC]) <;> exact rfl))
          repeat (first | apply Wp.seq | apply Wp.block)
          (apply Wp.run; (dsimp only [List.map] <;> exact rfl); exact rfl)
          (apply Run.nilc; (try dsimp only [putA]))
          (apply Run.nil; dsimp only [sQ, tQ, bQ])
          (apply Wp.ret; (try dsimp only [sQ, tQ, bQ]); apply leaveA; exact rfl; (simp only [push_cast, seval, hy, rF_len, rF_5, rF_6, rF_7, rF_s7] <;> (try simp (disch := omega) only [wI, wU, wC]) <;> exact rfl); (focus (first | (simp only [push_cast, seval, hy, rF_len, rF_5, rF_6, rF_7, rF_s7]; done) | trivial | (simp only [push_cast, seval, hy, rF_len, rF_5, rF_6, rF_7, rF_s7]; trivial) | (simp; done))); (try simp only [push_cast, seval, hy, rF_len, rF_5, rF_6, rF_7, rF_s7]))
          exact hQn hc h1
        · rw [show mA (rpK ks ls pl kind lost k) = m by rw [h1]; rfl] at hcsk
          have hJ := (rpK_some h1).1
          have hfk : f k = J := by rw [← hf]; show rpJ (rpK ks ls pl kind lost k) = J; rw [h1]; rfl
          have hst := fun q (hq : q < (loanP ls (k : Int) ls.length).length) => plQ_set (ls := ls) f hq
          have hLi := loanP_in ls (k : Int)
          have hLl := loanP_len ls (k : Int) ls.length
          have hnx := plQ_next ls f k
          rw [hfk] at hst
          generalize loanP ls (k : Int) ls.length = L at *
          dsimp only [S.put, optG]
          repeat (first | apply Wp.seq | apply Wp.block | (apply Run.next; (simp only [push_cast, seval, hy, rFa_5, rFa_6, rFa_7, hg, hg0, plQ_len, hB3, hB5] <;> (try simp (disch := omega) only [wI, wU, wC]) <;> exact rfl); (focus ((try simp only [push_cast, seval, hy, rFa_5, rFa_6, rFa_7, hg, hg0, plQ_len, hB3, hB5]) <;> exact sT))) | ((first | apply Run.nil | apply Wp.skip); dsimp only [sQ, tQ, bQ]) | (apply Wp.run; (dsimp only [List.map] <;> exact rfl); exact rfl) | (apply Wp.exit; dsimp only [sQ, tQ, bQ]; simp only [reduceIte]) | (apply Run.gtrue; (simp only [push_cast, seval, hy, rFa_5, rFa_6, rFa_7, hg, hg0, plQ_len, hB3, hB5] <;> (try simp (disch := omega) only [wI, wU, wC]) <;> exact rfl); (simp only [push_cast, seval, hy, rFa_5, rFa_6, rFa_7, hg, hg0, plQ_len, hB3, hB5] <;> (try simp (disch := omega) only [wI, wU, wC]) <;> exact rfl)) | (apply Run.gfalse (.bool false); (simp only [push_cast, seval, hy, rFa_5, rFa_6, rFa_7, hg, hg0, plQ_len, hB3, hB5] <;> (try simp (disch := omega) only [wI, wU, wC]) <;> exact rfl); dsimp only [S.put, optG]) | (apply Wp.condT; (simp only [push_cast, seval, hy, rFa_5, rFa_6, rFa_7, hg, hg0, plQ_len, hB3, hB5] <;> (try simp (disch := omega) only [wI, wU, wC]) <;> exact rfl)) | (apply Wp.condF; (simp only [push_cast, seval, hy, rFa_5, rFa_6, rFa_7, hg, hg0, plQ_len, hB3, hB5] <;> (try simp (disch := omega) only [wI, wU, wC]) <;> exact rfl)))
          refine Wp.loop (fun (q : Nat) => { t := [(1, repC pl kind lost), (2, .optr 5 0 0 0), (5, .osl 6 0 0 ls.length), (8, .optr (N + 3) 1 0 0), (16, .lst 2 (ks.map stA)), (17, .int ks.length), (18, .int k), (36, .osl (N + 5) L.length 0 L.length), (37, .int L.length), (38, .int q)], m := rF a0 a1 a2 a3 (c + m) ⟨0, .row 2 [storA ks ls]⟩ ⟨v + 1, .row 2 [stA y]⟩ G (plQ ls f k q) ++ B, n := 56 }) (fun q => q ≤ L.length) (fun q => L.length - q) 0 ?_ ?_ ?_
          · (refine Le.of ?_ ?_ rfl rfl <;> (try simp only [push_cast, seval, hy, rFa_5, rFa_6, rFa_7, hg, hg0, plQ_len, hB3, hB5]) <;> (try (with_reducible rfl)))
          · simp
          · intro q hq1
            repeat (first | apply Wp.seq | apply Wp.block | (apply Run.next; (simp only [push_cast, seval, hy, rFa_5, rFa_6, rFa_7, hg, hg0, plQ_len, hB3, hB5] <;> (try simp (disch := omega) only [wI, wU, wC]) <;> exact rfl); (focus ((try simp only [push_cast, seval, hy, rFa_5, rFa_6, rFa_7, hg, hg0, plQ_len, hB3, hB5]) <;> exact sT))) | ((first | apply Run.nil | apply Wp.skip); dsimp only [sQ, tQ, bQ]) | (apply Wp.run; (dsimp only [List.map] <;> exact rfl); exact rfl) | (apply Wp.exit; dsimp only [sQ, tQ, bQ]; simp only [reduceIte]))
            (apply Wp.cond; (simp only [push_cast, seval, hy, rFa_5, rFa_6, rFa_7, hg, hg0, plQ_len, hB3, hB5] <;> (try simp (disch := omega) only [wI, wU, wC]) <;> exact rfl))
            · intro hcq
              simp only [decide_eq_true_eq, Int.ofNat_lt] at hcq
              have hlo : 0 ≤ L.getD q 0 ∧ L.getD q 0 < (ls.length : Int) := hLi _ (by simp [hcq])
              have hst1 := hst q hcq
              obtain rfl := hb (fun e => by rw [e] at hcq; simp at hcq)
              generalize hlv : L.getD q 0 = loan at hlo hst1
              generalize hjv : J.getD q 0 = j at hst1
              repeat (first | apply Wp.seq | apply Wp.block | (apply Run.next; (simp only [push_cast, seval, hy, rFa_5, rFa_6, rFa_7, hg, hg0, plQ_len, hB3, hB5, hlv, hjv, hJ] <;> (try simp (disch := omega) only [wI, wU, wC]) <;> exact rfl); (focus ((try simp only [push_cast, seval, hy, rFa_5, rFa_6, rFa_7, hg, hg0, plQ_len, hB3, hB5, hlv, hjv, hJ]) <;> exact sT))) | ((first | apply Run.nil | apply Wp.skip); dsimp only [sQ, tQ, bQ]) | (apply Wp.run; (dsimp only [List.map] <;> exact rfl); exact rfl) | (apply Wp.exit; dsimp only [sQ, tQ, bQ]; simp only [reduceIte]))
              refine ⟨q + 1, ?_, by omega, by omega⟩
              rw [hst1]
              (refine Le.of ?_ ?_ rfl rfl <;> (try simp only [push_cast, seval, hy, rFa_5, rFa_6, rFa_7, hg, hg0, plQ_len, hB3, hB5, hlv, hjv, hJ]) <;> (try (with_reducible rfl)))
              all_goals rfl
            · intro hcq
              simp only [decide_eq_false_iff_not, Int.ofNat_lt] at hcq
              obtain rfl : q = L.length := by omega
              rw [hnx]
              repeat (first | apply Wp.seq | apply Wp.block | (apply Run.next; (simp only [push_cast, seval, hy, rFa_5, rFa_6, rFa_7, hg, hg0, plQ_len, hB3, hB5] <;> (try simp (disch := omega) only [wI, wU, wC]) <;> exact rfl); (focus ((try simp only [push_cast, seval, hy, rFa_5, rFa_6, rFa_7, hg, hg0, plQ_len, hB3, hB5]) <;> exact sT))) | ((first | apply Run.nil | apply Wp.skip); dsimp only [sQ, tQ, bQ]) | (apply Wp.run; (dsimp only [List.map] <;> exact rfl); exact rfl) | (apply Wp.exit; dsimp only [sQ, tQ, bQ]; simp only [reduceIte]))
              refine ⟨(k + 1, v + 1, .row 2 [stA y], G ++ B), ?_, ⟨by simp only; omega, fun i hi => ?_⟩, by simp only; omega⟩
              · simp only
                rw [← rF_app, hcsk]
                (refine Le.of ?_ ?_ rfl rfl <;> (try simp only [push_cast, seval, hy, rFa_5, rFa_6, rFa_7, hg, hg0, plQ_len, hB3, hB5]) <;> (try (with_reducible rfl)))
              · simp only at hi
                by_cases hik : i = k
                · rw [hik, h1]; rfl
                · exact hk2 i (by omega)
      · intro hc
        simp only [decide_eq_false_iff_not, Int.ofNat_lt] at hc
        obtain rfl : k = ks.length := by omega
        have hend := plQ_end hv f
        rw [hend]
        have hgl := glue_len ls f ls.length
        repeat (first | apply Wp.seq | apply Wp.block | (apply Run.next; (simp only [push_cast, seval, rF_len, rF_5, rF_6, rF_7, hgl] <;> (try simp (disch := omega) only [wI, wU, wC]) <;> exact rfl); (focus ((try simp only [push_cast, seval, rF_len, rF_5, rF_6, rF_7, hgl]) <;> exact sT))) | ((first | apply Run.nil | apply Wp.skip); dsimp only [sQ, tQ, bQ]) | (apply Wp.run; (dsimp only [List.map] <;> exact rfl); exact rfl) | (apply Wp.exit; dsimp only [sQ, tQ, bQ]; simp only [reduceIte]))
        (apply Wp.freeze 4; (simp only [push_cast, seval, rF_len, rF_5, rF_6, rF_7, hgl] <;> (try simp (disch := omega) only [wI, wU, wC]) <;> exact rfl); (simp only [push_cast, seval, rF_len, rF_5, rF_6, rF_7, hgl] <;> (try simp (disch := omega) only [wI, wU, wC]) <;> exact rfl); (focus (try simp only [push_cast, seval, rF_len, rF_5, rF_6, rF_7, hgl]); (try (exact sT))); (focus (exact sT)))
        (apply Wp.ret; (try dsimp only [sQ, tQ, bQ]); apply leaveA; exact rfl; (simp only [push_cast, seval, rF_len, rF_5, rF_6, rF_7, hgl] <;> (try simp (disch := omega) only [wI, wU, wC]) <;> exact rfl); (focus (first | (simp only [push_cast, seval, rF_len, rF_5, rF_6, rF_7, hgl]; done) | trivial | (simp only [push_cast, seval, rF_len, rF_5, rF_6, rF_7, hgl]; trivial) | (simp; done))); (try simp only [push_cast, seval, rF_len, rF_5, rF_6, rF_7, hgl]))
        rw [List.take_of_length_le (by omega), ← hck]
        exact hQs hk2
end Go.Proofs.Try
