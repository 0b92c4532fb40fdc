/- A part of the proof of BookingBest: contracts of functions, with plain laws that they need. -/
import Derived.Test.YtbeclidfilbbdaaVgK21
set_option linter.all false
set_option maxHeartbeats 8000000
set_option maxRecDepth 20000
namespace Go.Proofs.Try
open Go.Vg

/-! the search, with what is known -/
def knL (N n : Nat) : List AV := (List.range n).map fun i => .omap (N + i) 1
theorem knL_get {N n i : Nat} (h : i < n) (d : AV) : (knL N n).getD i d = .omap (N + i) 1 := by simp [knL, h]
def mpsE (n : Nat) (mp : Nat → List (Value × AV)) : Mem := (List.range n).map fun i => (⟨1, .mp (mp i)⟩ : Ent)
def Mm (F : Mem) (n : Nat) (mp : Nat → List (Value × AV)) (G : Mem) : Mem := F ++ (mpsE n mp ++ G)
def upM (mp : Nat → List (Value × AV)) (i : Nat) (L : List (Value × AV)) : Nat → List (Value × AV) := fun j => if j = i then L else mp j
theorem upM_same (mp : Nat → List (Value × AV)) (i : Nat) (L : List (Value × AV)) : upM mp i L i = L := by simp [upM]
theorem upM_ne (mp : Nat → List (Value × AV)) {i j : Nat} (L : List (Value × AV)) (h : j ≠ i) : upM mp i L j = mp j := by simp [upM, h]
theorem mpsE_len (n : Nat) (mp : Nat → List (Value × AV)) : (mpsE n mp).length = n := by simp [mpsE]
theorem mpsE_set (n : Nat) (mp : Nat → List (Value × AV)) {i : Nat} (L : List (Value × AV)) (h : i < n) : (mpsE n mp).set i ⟨1, .mp L⟩ = mpsE n (upM mp i L) := by
  apply List.ext_getElem
  · simp [mpsE]
  · intro j h1 h2
    simp only [List.length_set, mpsE_len] at h1
    rw [List.getElem_set]
    split
    · rename_i hij; subst hij; simp [mpsE, upM]
    · rename_i hij; simp [mpsE, upM, show ¬ j = i from fun h => hij h.symm]
theorem Mm_app (F : Mem) (n : Nat) (mp : Nat → List (Value × AV)) (G l : Mem) : Mm F n mp G ++ l = Mm F n mp (G ++ l) := by simp [Mm]
theorem Mm_len (F : Mem) (n : Nat) (mp : Nat → List (Value × AV)) (G : Mem) : (Mm F n mp G).length = F.length + (n + G.length) := by simp [Mm, mpsE_len]
theorem Mm_low {F : Mem} {r : Nat} {e : Ent} (h : F[r]? = some e) (n : Nat) (mp : Nat → List (Value × AV)) (G l : Mem) : (Mm F n mp G ++ l)[r]? = some e := by
  have hl := (List.getElem?_eq_some_iff.1 h).1
  rw [Mm_app, Mm, List.getElem?_append_left hl, h]
theorem Mm_map (F : Mem) (n : Nat) (mp : Nat → List (Value × AV)) (G l : Mem) {i : Nat} (h : i < n) : (Mm F n mp G ++ l)[F.length + i]? = some ⟨1, .mp (mp i)⟩ := by
  rw [Mm_app, Mm, List.getElem?_append_right (by omega), Nat.add_sub_cancel_left, List.getElem?_append_left (by rw [mpsE_len]; exact h)]
  simp [mpsE, h]
theorem Mm_setm (F : Mem) (n : Nat) (mp : Nat → List (Value × AV)) (G l : Mem) {i : Nat} (h : i < n) (L : List (Value × AV)) : (Mm F n mp G ++ l).set (F.length + i) ⟨1, .mp L⟩ = Mm F n (upM mp i L) G ++ l := by
  rw [Mm_app, Mm_app, Mm, Mm, List.set_append_right _ _ (by omega), Nat.add_sub_cancel_left, List.set_append_left _ _ (by rw [mpsE_len]; exact h), mpsE_set n mp L h]
/-- a rota in memory -/
structure RS (cs : List Ch) (ms : List Ma) (cake : Int) (ls : List Bk) (o : List Nat) (stf : List Int) (F : Mem) (N r vr io vo is vs ik vk : Nat) : Prop where
  hN : F.length = N
  hr : F[r]? = some ⟨vr, .row 7 [rotA cs ms cake ls (.osl io vo 0 ls.length) (.osl is vs 0 ls.length) (.osl ik vk 0 ls.length)]⟩
  ho : F[io]? = some ⟨vo, .row 1 ((cL o).map AV.int)⟩
  hs : F[is]? = some ⟨vs, .row 1 (stf.map AV.int)⟩
  hk : F[ik]? = some ⟨vk, .row 1 (knL N ls.length)⟩
structure PV (cs : List Ch) (ms : List Ma) (cake : Int) (ls : List Bk) (o : List Nat) (stf : List Int) : Prop where
  hv : HV cs ms cake
  lv : LV cs ls
  tg : ∀ i, i < ls.length → 0 ≤ (ls.getD i bk0).tongue ∧ (ls.getD i bk0).tongue ≤ 7
  en : ∀ i, i < ls.length → endG cs (ls.getD i bk0) ≤ 1440
  ol : o.length = ls.length
  om : ∀ i, i < o.length → o.getD i 0 < ls.length
  sl : stf.length = ls.length
def FrQ (cs : List Ch) (ms : List Ma) (ls : List Bk) (stf : List Int) (o : List Nat) (F G : Mem) (mp : Nat → List (Value × AV)) (i : Nat) (m' : Mem) : Prop :=
  ∃ (mp' : Nat → List (Value × AV)) (J : Mem), (∀ j, j < i → mp' j = mp j) ∧ (∀ j, i ≤ j → j < ls.length → MO cs ms ls stf (o.drop j) (mp' j)) ∧ m' = Mm F ls.length mp' G ++ J
theorem from_spec {cs : List Ch} {ms : List Ma} {cake : Int} {ls : List Bk} {o : List Nat} {stf : List Int} {F : Mem} {N r vr io vo is vs ik vk : Nat} (hp : PV cs ms cake ls o stf) (hR : RS cs ms cake ls o stf F N r vr io vo is vs ik vk) :
    ∀ (xs : List Nat) (i : Nat) (ii : Int) (b : List Int) (G : Mem) (mp : Nat → List (Value × AV)), o.drop i = xs → i + xs.length = ls.length → ii = (i : Int) → BB b → (∀ j, i ≤ j → j < ls.length → MO cs ms ls stf (o.drop j) (mp j)) →
      Go.Vg.Spec Try.prog 91 [.optr r vr 0 0, .int ii, .agg (b.map AV.int)] (Mm F ls.length mp G) (fun y m' => y = .bool (rF cs ms ls stf xs b) ∧ FrQ cs ms ls stf o F G mp i m') := by
  obtain ⟨hv, lv, tg, en, ol, om, sl⟩ := hp
  obtain ⟨hN, hr, ho, hs, hk⟩ := hR
  have hl20 := lv.l20
  have hc6 := hv.c6
  have hm6 := hv.m6
  intro xs
  induction xs with
  | nil =>
    intro i ii b G mp hxs hi hii hb hmp
    subst hii
    have hil : i = ls.length := by simpa using hi
    have hgr := Mm_low hr ls.length mp G
    have hb6 := hb.len
    have hB : (Mm F ls.length mp G).length = N + (ls.length + G.length) := by rw [Mm_len, hN]
    have hone : ∀ x, x ∈ List.map AV.int b → x.one := fun x hx => by
      obtain ⟨a, _, rfl⟩ := List.mem_map.1 hx; simp [AV.one, Value.oneCell']
    have hone' : (∀ x, x ∈ List.map AV.int b → x.one) = True := eq_true hone
    have hdt : decide ((i : Int) = (ls.length : Int)) = true := decide_eq_true (by omega)
    (refine Spec.of_bodyA Try.func91 rfl (by rw [Try.ntmps91]; simp) ?_; rw [Try.results91, Try.ntmps91]; simp only [entry, zipArgs, Nat.reduceAdd])
    repeat (first | apply Wp.seq | apply Wp.block | (apply Run.next; (simp only [push_cast, seval, hgr, hb6, hB, hone', hdt] <;> (try simp (disch := omega) only [wI, wU, wC]) <;> exact rfl); (focus ((try simp only [push_cast, seval, hgr, hb6, hB, hone', hdt]) <;> exact sT))) | ((first | apply Run.nil | apply Wp.skip); dsimp only [sQ, tQ, bQ]) | (apply Wp.run; (dsimp only [List.map] <;> exact rfl); exact rfl) | (apply Wp.exit; dsimp only [sQ, tQ, bQ]; simp only [reduceIte]) | (apply Run.gtrue; (simp only [push_cast, seval, hgr, hb6, hB, hone', hdt] <;> (try simp (disch := omega) only [wI, wU, wC]) <;> exact rfl); (simp only [push_cast, seval, hgr, hb6, hB, hone', hdt] <;> (try simp (disch := omega) only [wI, wU, wC]) <;> exact rfl)) | (apply Run.gfalse (.bool false); (simp only [push_cast, seval, hgr, hb6, hB, hone', hdt] <;> (try simp (disch := omega) only [wI, wU, wC]) <;> exact rfl); dsimp only [S.put, optG]) | (apply Wp.condT; (simp only [push_cast, seval, hgr, hb6, hB, hone', hdt] <;> (try simp (disch := omega) only [wI, wU, wC]) <;> exact rfl)) | (apply Wp.condF; (simp only [push_cast, seval, hgr, hb6, hB, hone', hdt] <;> (try simp (disch := omega) only [wI, wU, wC]) <;> exact rfl)))
    (apply Wp.ret; (try dsimp only [sQ, tQ, bQ]); apply leaveA; exact rfl; (simp only [push_cast, seval, hgr, hb6, hB, hone', hdt] <;> (try simp (disch := omega) only [wI, wU, wC]) <;> exact rfl); (focus (first | (simp only [push_cast, seval, hgr, hb6, hB, hone', hdt]; done) | trivial | (simp only [push_cast, seval, hgr, hb6, hB, hone', hdt]; trivial) | (simp; done))); (try simp only [push_cast, seval, hgr, hb6, hB, hone', hdt]))
    exact ⟨rfl, mp, _, fun _ _ => rfl, hmp, rfl⟩
  | cons x xs ih =>
    intro i ii b G mp hxs hi hii hb hmp
    subst hii
    have hin : i < ls.length := by simp at hi; omega
    have hx0 : o.getD i 0 = x ∧ o.drop (i + 1) = xs := by
      rw [List.drop_eq_getElem_cons (by omega)] at hxs
      simp only [List.cons.injEq] at hxs
      exact ⟨by simp [show i < o.length by omega, hxs.1], hxs.2⟩
    obtain ⟨hx0, hxs'⟩ := hx0
    have hxn : x < ls.length := by rw [← hx0]; exact om i (by omega)
    have hmo := hmp i (Nat.le_refl _) hin
    rw [hxs] at hmo
    have hrc := rF_clr cs ms ls stf x xs b
    have hrF : rF cs ms ls stf (x :: xs) b = (List.range ms.length).any fun m => okS cs ms ls stf x m (clr (ls.getD x bk0).st b) && rF cs ms ls stf xs ((clr (ls.getD x bk0).st b).set m (endG cs (ls.getD x bk0))) := rfl
    have hxb := lv.bv x hxn
    have hxt := tg x hxn
    have hxe := en x hxn
    have hpl := plays_pure (ms := ms) hv hxb
    have hld := fun (m : Int) (hm : 0 ≤ m ∧ m < ms.length) => leads_pure hv m hm hxb hxt
    have hcB := clr_BB (s := (ls.getD x bk0).st) hb
    have hcc := clr_clr (ls.getD x bk0).st b
    have hokS : ∀ m c, okS cs ms ls stf x m c = !((decide (0 ≤ stf.getD x 0) && !decide (stf.getD x 0 = (m : Int))) || decide (0 < c.getD m 0) || !ldB cs ms m (ls.getD x bk0)) := fun _ _ => rfl
    have hbd := endG_bd2 hv hxb
    have hxs1 := hxb.st
    have hmixA := mixG_all (c1 (ls.getD x bk0).st) b 6 hb.len.symm
    have hmix0 : mixG (c1 (ls.getD x bk0).st) b 0 = b := by simp [mixG]
    rw [show b.map (c1 (ls.getD x bk0).st) = clr (ls.getD x bk0).st b from rfl] at hmixA
    generalize hbx : ls.getD x bk0 = bx at *
    generalize endG cs bx = eg at *
    generalize hg : stf.getD x 0 = g at *
    generalize hc : clr bx.st b = c at *
    have hgr := Mm_low hr ls.length
    have hgo := Mm_low ho ls.length
    have hgs := Mm_low hs ls.length
    have hgk := Mm_low hk ls.length
    have hgm := fun mp G l => Mm_map F ls.length mp G l hin
    have hsm := fun mp G l L => Mm_setm F ls.length mp G l hin L
    rw [hN] at hgm hsm
    obtain ⟨B, hBe⟩ : ∃ B, B = N + (ls.length + G.length) := ⟨_, rfl⟩
    have hB : ∀ mp, (Mm F ls.length mp G).length = B := fun mp => by rw [Mm_len, hN, hBe]
    have hb0 : ∀ mp l, (Mm F ls.length mp G ++ l)[B]? = l[0]? := fun mp l => getF0 (hB mp)
    have hbj : ∀ mp l j, (Mm F ls.length mp G ++ l)[B + j]? = l[j]? := fun mp l j => getF (hB mp) j
    have hs0 : ∀ mp l e, (Mm F ls.length mp G ++ l).set B e = Mm F ls.length mp G ++ l.set 0 e := fun mp l e => setF0 (hB mp) e
    have hsj : ∀ mp l j e, (Mm F ls.length mp G ++ l).set (B + j) e = Mm F ls.length mp G ++ l.set j e := fun mp l j e => setF (hB mp) j e
    have hap : ∀ mp (l l' : Mem), (Mm F ls.length mp G ++ l) ++ l' = Mm F ls.length mp G ++ (l ++ l') := fun mp l l' => List.append_assoc _ _ _
    have hone : ∀ c : List Int, (∀ x, x ∈ List.map AV.int c → x.one) = True := fun c => eq_true fun x hx => by
      obtain ⟨a, _, rfl⟩ := List.mem_map.1 hx; simp [AV.one, Value.oneCell']
    have hfl : ∀ c : List Int, (AV.agg (List.map AV.int c)).flat = True := fun c => hone c
    have hdf : decide ((i : Int) = (ls.length : Int)) = false := decide_eq_false (by omega)
    have hb6 := hb.len
    have hc6' := hcB.len
    have hbt : b.take 6 = b := List.take_of_length_le (by omega)
    have hct : c.take 6 = c := List.take_of_length_le (by omega)
    have hoi : (cL o).getD i 0 = (x : Int) := by
      have h1 : (cL o).getD i 0 = ((o.getD i 0 : Nat) : Int) := by
        simp [cL, show i < o.length by omega]
      rw [h1, hx0]
    have hki := fun d => knL_get (N := N) hin d
    have hol := cL_len o
    rw [ol] at hol
    have hknl : (knL N ls.length).length = ls.length := by simp [knL]
    (refine Spec.of_bodyA Try.func91 rfl (by rw [Try.ntmps91]; simp) ?_; rw [Try.results91, Try.ntmps91]; simp only [entry, zipArgs, Nat.reduceAdd])
    repeat (first | apply Wp.seq | apply Wp.block | (apply Run.next; (simp only [push_cast, seval, hgr, hgo, hgs, hgk, hgm, hsm, hB, hb0, hbj, hs0, hsj, hap, ↓hone, ↓hfl, hdf, hb6, hbt, hoi, hki, hbx, hg, List.length_append, Nat.mul_one, hol, hknl, sl] <;> (try simp (disch := omega) only [wI, wU, wC]) <;> exact rfl); (focus ((try simp only [push_cast, seval, hgr, hgo, hgs, hgk, hgm, hsm, hB, hb0, hbj, hs0, hsj, hap, ↓hone, ↓hfl, hdf, hb6, hbt, hoi, hki, hbx, hg, List.length_append, Nat.mul_one, hol, hknl, sl]) <;> exact sT))) | ((first | apply Run.nil | apply Wp.skip); dsimp only [sQ, tQ, bQ]) | (apply Wp.run; (dsimp only [List.map] <;> exact rfl); exact rfl) | (apply Wp.exit; dsimp only [sQ, tQ, bQ]; simp only [reduceIte]) | (apply Run.gtrue; (simp only [push_cast, seval, hgr, hgo, hgs, hgk, hgm, hsm, hB, hb0, hbj, hs0, hsj, hap, ↓hone, ↓hfl, hdf, hb6, hbt, hoi, hki, hbx, hg, List.length_append, Nat.mul_one, hol, hknl, sl] <;> (try simp (disch := omega) only [wI, wU, wC]) <;> exact rfl); (simp only [push_cast, seval, hgr, hgo, hgs, hgk, hgm, hsm, hB, hb0, hbj, hs0, hsj, hap, ↓hone, ↓hfl, hdf, hb6, hbt, hoi, hki, hbx, hg, List.length_append, Nat.mul_one, hol, hknl, sl] <;> (try simp (disch := omega) only [wI, wU, wC]) <;> exact rfl)) | (apply Run.gfalse (.bool false); (simp only [push_cast, seval, hgr, hgo, hgs, hgk, hgm, hsm, hB, hb0, hbj, hs0, hsj, hap, ↓hone, ↓hfl, hdf, hb6, hbt, hoi, hki, hbx, hg, List.length_append, Nat.mul_one, hol, hknl, sl] <;> (try simp (disch := omega) only [wI, wU, wC]) <;> exact rfl); dsimp only [S.put, optG]) | (apply Wp.condT; (simp only [push_cast, seval, hgr, hgo, hgs, hgk, hgm, hsm, hB, hb0, hbj, hs0, hsj, hap, ↓hone, ↓hfl, hdf, hb6, hbt, hoi, hki, hbx, hg, List.length_append, Nat.mul_one, hol, hknl, sl] <;> (try simp (disch := omega) only [wI, wU, wC]) <;> exact rfl)) | (apply Wp.condF; (simp only [push_cast, seval, hgr, hgo, hgs, hgk, hgm, hsm, hB, hb0, hbj, hs0, hsj, hap, ↓hone, ↓hfl, hdf, hb6, hbt, hoi, hki, hbx, hg, List.length_append, Nat.mul_one, hol, hknl, sl] <;> (try simp (disch := omega) only [wI, wU, wC]) <;> exact rfl)))
    (apply Wp.runVE 14 mixed; (dsimp only [List.map] <;> exact rfl); exact rfl; kernel_rfl; (dsimp only [List.take] <;> exact rfl); (dsimp only [List.drop] <;> exact rfl); kernel_rfl; ((try dsimp only); (repeat (first | (apply AbsV.alc; exact rfl; (simp only [push_cast, seval, hgr, hgo, hgs, hgk, hgm, hsm, hB, hb0, hbj, hs0, hsj, hap, ↓hone, ↓hfl, hdf, hb6, hbt, hoi, hki, hbx, hg, List.length_append, Nat.mul_one, hol, hknl, sl] <;> (try simp (disch := omega) only [wI, wU, wC]) <;> exact rfl); (focus ((try simp only [push_cast, seval, hgr, hgo, hgs, hgk, hgm, hsm, hB, hb0, hbj, hs0, hsj, hap, ↓hone, ↓hfl, hdf, hb6, hbt, hoi, hki, hbx, hg, List.length_append, Nat.mul_one, hol, hknl, sl]) <;> exact sT)); dsimp only [upd, alcV, List.length_cons, List.length_nil, Nat.reduceAdd]) | (apply AbsV.apn; exact rfl; (simp only [push_cast, seval, hgr, hgo, hgs, hgk, hgm, hsm, hB, hb0, hbj, hs0, hsj, hap, ↓hone, ↓hfl, hdf, hb6, hbt, hoi, hki, hbx, hg, List.length_append, Nat.mul_one, hol, hknl, sl] <;> (try simp (disch := omega) only [wI, wU, wC]) <;> exact rfl); (focus ((try simp only [push_cast, seval, hgr, hgo, hgs, hgk, hgm, hsm, hB, hb0, hbj, hs0, hsj, hap, ↓hone, ↓hfl, hdf, hb6, hbt, hoi, hki, hbx, hg, List.length_append, Nat.mul_one, hol, hknl, sl]) <;> exact sT)); dsimp only [upd, alcV, List.length_cons, List.length_nil, Nat.reduceAdd]) | (apply AbsV.cons; exact rfl; exact rfl; (simp only [push_cast, seval, hgr, hgo, hgs, hgk, hgm, hsm, hB, hb0, hbj, hs0, hsj, hap, ↓hone, ↓hfl, hdf, hb6, hbt, hoi, hki, hbx, hg, List.length_append, Nat.mul_one, hol, hknl, sl] <;> (try simp (disch := omega) only [wI, wU, wC]) <;> exact rfl); (focus ((try simp only [push_cast, seval, hgr, hgo, hgs, hgk, hgm, hsm, hB, hb0, hbj, hs0, hsj, hap, ↓hone, ↓hfl, hdf, hb6, hbt, hoi, hki, hbx, hg, List.length_append, Nat.mul_one, hol, hknl, sl]) <;> exact sT)); dsimp only [upd]))); exact AbsV.nil); exact rfl; ((try dsimp only [List.map, List.cons_append, List.nil_append]); (simp only [push_cast, seval, hgr, hgo, hgs, hgk, hgm, hsm, hB, hb0, hbj, hs0, hsj, hap, ↓hone, ↓hfl, hdf, hb6, hbt, hoi, hki, hbx, hg, List.length_append, Nat.mul_one, hol, hknl, sl] <;> (try simp (disch := omega) only [wI, wU, wC]) <;> exact rfl)); (focus ((try simp only [push_cast, seval, hgr, hgo, hgs, hgk, hgm, hsm, hB, hb0, hbj, hs0, hsj, hap, ↓hone, ↓hfl, hdf, hb6, hbt, hoi, hki, hbx, hg, List.length_append, Nat.mul_one, hol, hknl, sl]) <;> exact sT)); dsimp only [upd])
    repeat (first | apply Wp.seq | apply Wp.block | (apply Run.next; (simp only [push_cast, seval, hgr, hgo, hgs, hgk, hgm, hsm, hB, hb0, hbj, hs0, hsj, hap, ↓hone, ↓hfl, hdf, hb6, hbt, hoi, hki, hbx, hg, List.length_append, Nat.mul_one, hol, hknl, sl] <;> (try simp (disch := omega) only [wI, wU, wC]) <;> exact rfl); (focus ((try simp only [push_cast, seval, hgr, hgo, hgs, hgk, hgm, hsm, hB, hb0, hbj, hs0, hsj, hap, ↓hone, ↓hfl, hdf, hb6, hbt, hoi, hki, hbx, hg, List.length_append, Nat.mul_one, hol, hknl, sl]) <;> exact sT))) | ((first | apply Run.nil | apply Wp.skip); dsimp only [sQ, tQ, bQ]) | (apply Wp.run; (dsimp only [List.map] <;> exact rfl); exact rfl) | (apply Wp.exit; dsimp only [sQ, tQ, bQ]; simp only [reduceIte]))
    (apply Wp.runGE 1 7 mixed; (dsimp only [List.map] <;> exact rfl); exact rfl; kernel_rfl; (dsimp only [List.take] <;> exact rfl); (dsimp only [List.drop] <;> exact rfl); kernel_rfl; ((try dsimp only [List.replicate]); ((repeat (first | (apply AbsG.bld; exact rfl; (simp only [push_cast, seval, hgr, hgo, hgs, hgk, hgm, hsm, hB, hb0, hbj, hs0, hsj, hap, ↓hone, ↓hfl, hdf, hb6, hbt, hoi, hki, hbx, hg, List.length_append, Nat.mul_one, hol, hknl, sl] <;> (try simp (disch := omega) only [wI, wU, wC]) <;> exact rfl); (focus ((try simp only [push_cast, seval, hgr, hgo, hgs, hgk, hgm, hsm, hB, hb0, hbj, hs0, hsj, hap, ↓hone, ↓hfl, hdf, hb6, hbt, hoi, hki, hbx, hg, List.length_append, Nat.mul_one, hol, hknl, sl]) <;> exact sT)); dsimp only [upd]) | (apply AbsG.pure; exact rfl; exact rfl; (simp only [push_cast, seval, hgr, hgo, hgs, hgk, hgm, hsm, hB, hb0, hbj, hs0, hsj, hap, ↓hone, ↓hfl, hdf, hb6, hbt, hoi, hki, hbx, hg, List.length_append, Nat.mul_one, hol, hknl, sl] <;> (try simp (disch := omega) only [wI, wU, wC]) <;> exact rfl); (focus ((try simp only [push_cast, seval, hgr, hgo, hgs, hgk, hgm, hsm, hB, hb0, hbj, hs0, hsj, hap, ↓hone, ↓hfl, hdf, hb6, hbt, hoi, hki, hbx, hg, List.length_append, Nat.mul_one, hol, hknl, sl]) <;> exact sT)); dsimp only [upd]))); (apply AbsG.callS; exact rfl; (simp only [push_cast, seval, hgr, hgo, hgs, hgk, hgm, hsm, hB, hb0, hbj, hs0, hsj, hap, ↓hone, ↓hfl, hdf, hb6, hbt, hoi, hki, hbx, hg, List.length_append, Nat.mul_one, hol, hknl, sl] <;> (try simp (disch := omega) only [wI, wU, wC]) <;> exact rfl); (exact (Enters.of Try.func67 rfl rfl)); (exact fun _ => hpl); (focus (simp only [push_cast, seval, hgr, hgo, hgs, hgk, hgm, hsm, hB, hb0, hbj, hs0, hsj, hap, ↓hone, ↓hfl, hdf, hb6, hbt, hoi, hki, hbx, hg, List.length_append, Nat.mul_one, hol, hknl, sl] <;> first | trivial | assumption | (refine ⟨?_, ?_⟩ <;> assumption) | (simp; done))); (simp only [push_cast, seval, hgr, hgo, hgs, hgk, hgm, hsm, hB, hb0, hbj, hs0, hsj, hap, ↓hone, ↓hfl, hdf, hb6, hbt, hoi, hki, hbx, hg, List.length_append, Nat.mul_one, hol, hknl, sl] <;> first | trivial | assumption | (refine ⟨?_, ?_⟩ <;> assumption) | (simp; done)); (try dsimp only [upd, optG])); (repeat (first | (apply AbsG.bld; exact rfl; (simp only [push_cast, seval, hgr, hgo, hgs, hgk, hgm, hsm, hB, hb0, hbj, hs0, hsj, hap, ↓hone, ↓hfl, hdf, hb6, hbt, hoi, hki, hbx, hg, List.length_append, Nat.mul_one, hol, hknl, sl] <;> (try simp (disch := omega) only [wI, wU, wC]) <;> exact rfl); (focus ((try simp only [push_cast, seval, hgr, hgo, hgs, hgk, hgm, hsm, hB, hb0, hbj, hs0, hsj, hap, ↓hone, ↓hfl, hdf, hb6, hbt, hoi, hki, hbx, hg, List.length_append, Nat.mul_one, hol, hknl, sl]) <;> exact sT)); dsimp only [upd]) | (apply AbsG.pure; exact rfl; exact rfl; (simp only [push_cast, seval, hgr, hgo, hgs, hgk, hgm, hsm, hB, hb0, hbj, hs0, hsj, hap, ↓hone, ↓hfl, hdf, hb6, hbt, hoi, hki, hbx, hg, List.length_append, Nat.mul_one, hol, hknl, sl] <;> (try simp (disch := omega) only [wI, wU, wC]) <;> exact rfl); (focus ((try simp only [push_cast, seval, hgr, hgo, hgs, hgk, hgm, hsm, hB, hb0, hbj, hs0, hsj, hap, ↓hone, ↓hfl, hdf, hb6, hbt, hoi, hki, hbx, hg, List.length_append, Nat.mul_one, hol, hknl, sl]) <;> exact sT)); dsimp only [upd]))); (apply AbsG.new 0; exact rfl; (simp only [push_cast, seval, hgr, hgo, hgs, hgk, hgm, hsm, hB, hb0, hbj, hs0, hsj, hap, ↓hone, ↓hfl, hdf, hb6, hbt, hoi, hki, hbx, hg, List.length_append, Nat.mul_one, hol, hknl, sl] <;> (try simp (disch := omega) only [wI, wU, wC]) <;> exact rfl); (focus ((try simp only [push_cast, seval, hgr, hgo, hgs, hgk, hgm, hsm, hB, hb0, hbj, hs0, hsj, hap, ↓hone, ↓hfl, hdf, hb6, hbt, hoi, hki, hbx, hg, List.length_append, Nat.mul_one, hol, hknl, sl]) <;> exact sT)); exact rfl; dsimp only [upd, alcV, List.set, List.length_cons, List.length_nil, Nat.reduceAdd]); (repeat (first | (apply AbsG.bld; exact rfl; (simp only [push_cast, seval, hgr, hgo, hgs, hgk, hgm, hsm, hB, hb0, hbj, hs0, hsj, hap, ↓hone, ↓hfl, hdf, hb6, hbt, hoi, hki, hbx, hg, List.length_append, Nat.mul_one, hol, hknl, sl] <;> (try simp (disch := omega) only [wI, wU, wC]) <;> exact rfl); (focus ((try simp only [push_cast, seval, hgr, hgo, hgs, hgk, hgm, hsm, hB, hb0, hbj, hs0, hsj, hap, ↓hone, ↓hfl, hdf, hb6, hbt, hoi, hki, hbx, hg, List.length_append, Nat.mul_one, hol, hknl, sl]) <;> exact sT)); dsimp only [upd]) | (apply AbsG.pure; exact rfl; exact rfl; (simp only [push_cast, seval, hgr, hgo, hgs, hgk, hgm, hsm, hB, hb0, hbj, hs0, hsj, hap, ↓hone, ↓hfl, hdf, hb6, hbt, hoi, hki, hbx, hg, List.length_append, Nat.mul_one, hol, hknl, sl] <;> (try simp (disch := omega) only [wI, wU, wC]) <;> exact rfl); (focus ((try simp only [push_cast, seval, hgr, hgo, hgs, hgk, hgm, hsm, hB, hb0, hbj, hs0, hsj, hap, ↓hone, ↓hfl, hdf, hb6, hbt, hoi, hki, hbx, hg, List.length_append, Nat.mul_one, hol, hknl, sl]) <;> exact sT)); dsimp only [upd])))); exact AbsG.nil); kernel_rfl; exact rfl; ((try dsimp only [List.cons_append, List.nil_append]); (simp only [push_cast, seval, hgr, hgo, hgs, hgk, hgm, hsm, hB, hb0, hbj, hs0, hsj, hap, ↓hone, ↓hfl, hdf, hb6, hbt, hoi, hki, hbx, hg, List.length_append, Nat.mul_one, hol, hknl, sl] <;> (try simp (disch := omega) only [wI, wU, wC]) <;> exact rfl)); (focus ((try simp only [push_cast, seval, hgr, hgo, hgs, hgk, hgm, hsm, hB, hb0, hbj, hs0, hsj, hap, ↓hone, ↓hfl, hdf, hb6, hbt, hoi, hki, hbx, hg, List.length_append, Nat.mul_one, hol, hknl, sl]) <;> exact sT)); dsimp only [upd])
    repeat (first | apply Wp.seq | apply Wp.block | (apply Run.next; (simp only [push_cast, seval, hgr, hgo, hgs, hgk, hgm, hsm, hB, hb0, hbj, hs0, hsj, hap, ↓hone, ↓hfl, hdf, hb6, hbt, hoi, hki, hbx, hg, List.length_append, Nat.mul_one, hol, hknl, sl] <;> (try simp (disch := omega) only [wI, wU, wC]) <;> exact rfl); (focus ((try simp only [push_cast, seval, hgr, hgo, hgs, hgk, hgm, hsm, hB, hb0, hbj, hs0, hsj, hap, ↓hone, ↓hfl, hdf, hb6, hbt, hoi, hki, hbx, hg, List.length_append, Nat.mul_one, hol, hknl, sl]) <;> exact sT))) | ((first | apply Run.nil | apply Wp.skip); dsimp only [sQ, tQ, bQ]) | (apply Wp.run; (dsimp only [List.map] <;> exact rfl); exact rfl) | (apply Wp.exit; dsimp only [sQ, tQ, bQ]; simp only [reduceIte]))
    refine Wp.loop (fun (k : Nat) => { t := [(0, .optr r vr 0 0), (1, .int i), (5, .optr B 0 0 0), (7, .optr (B + 1) 1 0 0), (8, .optr (B + 2) 1 0 0), (41, .agg (b.map AV.int)), (42, .int k)], m := Mm F ls.length mp G ++ [⟨0, .row 6 [.agg ((mixG (c1 bx.st) b k).map AV.int)]⟩, ⟨1, .row 6 [bkA bx]⟩, ⟨1, .row 2 [spA bx.st eg]⟩], n := 148 }) (fun k => k ≤ 6) (fun k => 6 - k) 0 ?_ ?_ ?_
    · rw [hmix0]
      (refine Le.of ?_ ?_ rfl rfl <;> (try simp only [push_cast, seval, hgr, hgo, hgs, hgk, hgm, hsm, hB, hb0, hbj, hs0, hsj, hap, ↓hone, ↓hfl, hdf, hb6, hbt, hoi, hki, hbx, hg, List.length_append, Nat.mul_one, hol, hknl, sl]) <;> (try (with_reducible rfl)))
      all_goals rfl
    · simp
    · intro k hk6
      have hml := mixG_len (c1 bx.st) b k
      rw [hb6] at hml
      generalize hM : mixG (c1 bx.st) b k = M at hml
      have hMt : M.take 6 = M := List.take_of_length_le (by omega)
      repeat (first | apply Wp.seq | apply Wp.block | (apply Run.next; (simp only [push_cast, seval, hgr, hgo, hgs, hgk, hgm, hsm, hB, hb0, hbj, hs0, hsj, hap, ↓hone, ↓hfl, hdf, hb6, hbt, hoi, hki, hbx, hg, List.length_append, Nat.mul_one, hol, hknl, sl] <;> (try simp (disch := omega) only [wI, wU, wC]) <;> exact rfl); (focus ((try simp only [push_cast, seval, hgr, hgo, hgs, hgk, hgm, hsm, hB, hb0, hbj, hs0, hsj, hap, ↓hone, ↓hfl, hdf, hb6, hbt, hoi, hki, hbx, hg, List.length_append, Nat.mul_one, hol, hknl, sl]) <;> exact sT))) | ((first | apply Run.nil | apply Wp.skip); dsimp only [sQ, tQ, bQ]) | (apply Wp.run; (dsimp only [List.map] <;> exact rfl); exact rfl) | (apply Wp.exit; dsimp only [sQ, tQ, bQ]; simp only [reduceIte]))
      rcases Nat.lt_or_ge k 6 with hk7 | hk7
      · have hlt : decide ((k : Int) < 6) = true := decide_eq_true (by omega)
        have hbk : ∀ d, (List.map AV.int b).getD k d = .int (b.getD k 0) := fun d => by
          simp [List.getD_eq_getElem?_getD, show k < b.length by omega]
        have hms := mixG_succ (c1 bx.st) b k (by omega)
        have hmm := mixG_same (c1 bx.st) b k (by omega)
        have hmd := set_mid M k 0 (by omega)
        rw [hM] at hms hmm
        have hc1 : c1 bx.st (b.getD k 0) = if b.getD k 0 ≤ bx.st then 0 else b.getD k 0 := rfl
        generalize hu : b.getD k 0 = u at *
        repeat (first | apply Wp.seq | apply Wp.block | (apply Run.next; (simp only [push_cast, seval, hgr, hgo, hgs, hgk, hgm, hsm, hB, hb0, hbj, hs0, hsj, hap, ↓hone, ↓hfl, hdf, hb6, hbt, hoi, hki, hbx, hg, List.length_append, Nat.mul_one, hol, hknl, sl, hlt, hbk, hml, hmd] <;> (try simp (disch := omega) only [wI, wU, wC]) <;> exact rfl); (focus ((try simp only [push_cast, seval, hgr, hgo, hgs, hgk, hgm, hsm, hB, hb0, hbj, hs0, hsj, hap, ↓hone, ↓hfl, hdf, hb6, hbt, hoi, hki, hbx, hg, List.length_append, Nat.mul_one, hol, hknl, sl, hlt, hbk, hml, hmd]) <;> exact sT))) | ((first | apply Run.nil | apply Wp.skip); dsimp only [sQ, tQ, bQ]) | (apply Wp.run; (dsimp only [List.map] <;> exact rfl); exact rfl) | (apply Wp.exit; dsimp only [sQ, tQ, bQ]; simp only [reduceIte]) | (apply Run.gtrue; (simp only [push_cast, seval, hgr, hgo, hgs, hgk, hgm, hsm, hB, hb0, hbj, hs0, hsj, hap, ↓hone, ↓hfl, hdf, hb6, hbt, hoi, hki, hbx, hg, List.length_append, Nat.mul_one, hol, hknl, sl, hlt, hbk, hml, hmd] <;> (try simp (disch := omega) only [wI, wU, wC]) <;> exact rfl); (simp only [push_cast, seval, hgr, hgo, hgs, hgk, hgm, hsm, hB, hb0, hbj, hs0, hsj, hap, ↓hone, ↓hfl, hdf, hb6, hbt, hoi, hki, hbx, hg, List.length_append, Nat.mul_one, hol, hknl, sl, hlt, hbk, hml, hmd] <;> (try simp (disch := omega) only [wI, wU, wC]) <;> exact rfl)) | (apply Run.gfalse (.bool false); (simp only [push_cast, seval, hgr, hgo, hgs, hgk, hgm, hsm, hB, hb0, hbj, hs0, hsj, hap, ↓hone, ↓hfl, hdf, hb6, hbt, hoi, hki, hbx, hg, List.length_append, Nat.mul_one, hol, hknl, sl, hlt, hbk, hml, hmd] <;> (try simp (disch := omega) only [wI, wU, wC]) <;> exact rfl); dsimp only [S.put, optG]) | (apply Wp.condT; (simp only [push_cast, seval, hgr, hgo, hgs, hgk, hgm, hsm, hB, hb0, hbj, hs0, hsj, hap, ↓hone, ↓hfl, hdf, hb6, hbt, hoi, hki, hbx, hg, List.length_append, Nat.mul_one, hol, hknl, sl, hlt, hbk, hml, hmd] <;> (try simp (disch := omega) only [wI, wU, wC]) <;> exact rfl)) | (apply Wp.condF; (simp only [push_cast, seval, hgr, hgo, hgs, hgk, hgm, hsm, hB, hb0, hbj, hs0, hsj, hap, ↓hone, ↓hfl, hdf, hb6, hbt, hoi, hki, hbx, hg, List.length_append, Nat.mul_one, hol, hknl, sl, hlt, hbk, hml, hmd] <;> (try simp (disch := omega) only [wI, wU, wC]) <;> exact rfl)))
        (apply Wp.cond; (simp only [push_cast, seval, hgr, hgo, hgs, hgk, hgm, hsm, hB, hb0, hbj, hs0, hsj, hap, ↓hone, ↓hfl, hdf, hb6, hbt, hoi, hki, hbx, hg, List.length_append, Nat.mul_one, hol, hknl, sl, hlt, hbk, hml, hmd] <;> (try simp (disch := omega) only [wI, wU, wC]) <;> exact rfl))
        · intro h4
          simp only [decide_eq_true_eq] at h4
          rw [if_pos h4] at hc1
          rw [hc1] at hms
          repeat (first | apply Wp.seq | apply Wp.block | (apply Run.next; (simp only [push_cast, seval, hgr, hgo, hgs, hgk, hgm, hsm, hB, hb0, hbj, hs0, hsj, hap, ↓hone, ↓hfl, hdf, hb6, hbt, hoi, hki, hbx, hg, List.length_append, Nat.mul_one, hol, hknl, sl, hlt, hbk, hml, hmd] <;> (try simp (disch := omega) only [wI, wU, wC]) <;> exact rfl); (focus ((try simp only [push_cast, seval, hgr, hgo, hgs, hgk, hgm, hsm, hB, hb0, hbj, hs0, hsj, hap, ↓hone, ↓hfl, hdf, hb6, hbt, hoi, hki, hbx, hg, List.length_append, Nat.mul_one, hol, hknl, sl, hlt, hbk, hml, hmd]) <;> exact sT))) | ((first | apply Run.nil | apply Wp.skip); dsimp only [sQ, tQ, bQ]) | (apply Wp.run; (dsimp only [List.map] <;> exact rfl); exact rfl) | (apply Wp.exit; dsimp only [sQ, tQ, bQ]; simp only [reduceIte]))
          refine ⟨k + 1, ?_, by omega, by omega⟩
          rw [← hms]
          (refine Le.of ?_ ?_ rfl rfl <;> (try simp only [push_cast, seval, hgr, hgo, hgs, hgk, hgm, hsm, hB, hb0, hbj, hs0, hsj, hap, ↓hone, ↓hfl, hdf, hb6, hbt, hoi, hki, hbx, hg, List.length_append, Nat.mul_one, hol, hknl, sl, hlt, hbk, hml, hmd]) <;> (try (with_reducible rfl)))
        · intro h4
          simp only [decide_eq_false_iff_not] at h4
          rw [if_neg h4] at hc1
          have hmm' := hmm hc1
          repeat (first | apply Wp.seq | apply Wp.block | (apply Run.next; (simp only [push_cast, seval, hgr, hgo, hgs, hgk, hgm, hsm, hB, hb0, hbj, hs0, hsj, hap, ↓hone, ↓hfl, hdf, hb6, hbt, hoi, hki, hbx, hg, List.length_append, Nat.mul_one, hol, hknl, sl, hlt, hbk, hml, hmd] <;> (try simp (disch := omega) only [wI, wU, wC]) <;> exact rfl); (focus ((try simp only [push_cast, seval, hgr, hgo, hgs, hgk, hgm, hsm, hB, hb0, hbj, hs0, hsj, hap, ↓hone, ↓hfl, hdf, hb6, hbt, hoi, hki, hbx, hg, List.length_append, Nat.mul_one, hol, hknl, sl, hlt, hbk, hml, hmd]) <;> exact sT))) | ((first | apply Run.nil | apply Wp.skip); dsimp only [sQ, tQ, bQ]) | (apply Wp.run; (dsimp only [List.map] <;> exact rfl); exact rfl) | (apply Wp.exit; dsimp only [sQ, tQ, bQ]; simp only [reduceIte]))
          refine ⟨k + 1, ?_, by omega, by omega⟩
          rw [hmm']
          (refine Le.of ?_ ?_ rfl rfl <;> (try simp only [push_cast, seval, hgr, hgo, hgs, hgk, hgm, hsm, hB, hb0, hbj, hs0, hsj, hap, ↓hone, ↓hfl, hdf, hb6, hbt, hoi, hki, hbx, hg, List.length_append, Nat.mul_one, hol, hknl, sl, hlt, hbk, hml, hmd]) <;> (try (with_reducible rfl)))
      · have hk6' : k = 6 := by omega
        subst hk6'
        have hlt : decide (((6 : Nat) : Int) < 6) = false := by decide
        rw [hmixA] at hM
        subst hM
        have hkv := keyVs_ints c
        have hek : eqKey (Value.agg (List.map (Value.int IntKind.i64) c).toArray) (Value.agg (List.map (Value.int IntKind.i64) c).toArray) = true := by
          have := eqKey_B c c; simpa using this
        have hgb := goodBB hcB
        have hgl := hmo.good
        have hkB : Maps.Keyed Try.prog 116 = True := eq_true keyedB
        have hmv := hmo.val c
        rw [hrc] at hmv
        generalize hLm : mp i = L0 at hmo hgl hmv
        cases hf : findL L0 (kyV c) with
        | some v =>
          rcases hmv v hf with ⟨rfl, hr1⟩ | ⟨rfl, hr1⟩
          · 
            repeat (first | apply Wp.seq | apply Wp.block | (apply Run.next; (simp only [push_cast, seval, hgr, hgo, hgs, hgk, hgm, hsm, hB, hb0, hbj, hs0, hsj, hap, ↓hone, ↓hfl, hdf, hb6, hbt, hoi, hki, hbx, hg, List.length_append, Nat.mul_one, hol, hknl, sl, hlt, hc6', hct, hkv, hek, hgb, hkB, hgl, hLm, hf] <;> (try simp (disch := omega) only [wI, wU, wC]) <;> exact rfl); (focus ((try simp only [push_cast, seval, hgr, hgo, hgs, hgk, hgm, hsm, hB, hb0, hbj, hs0, hsj, hap, ↓hone, ↓hfl, hdf, hb6, hbt, hoi, hki, hbx, hg, List.length_append, Nat.mul_one, hol, hknl, sl, hlt, hc6', hct, hkv, hek, hgb, hkB, hgl, hLm, hf]) <;> exact sT))) | ((first | apply Run.nil | apply Wp.skip); dsimp only [sQ, tQ, bQ]) | (apply Wp.run; (dsimp only [List.map] <;> exact rfl); exact rfl) | (apply Wp.exit; dsimp only [sQ, tQ, bQ]; simp only [reduceIte]) | (apply Run.gtrue; (simp only [push_cast, seval, hgr, hgo, hgs, hgk, hgm, hsm, hB, hb0, hbj, hs0, hsj, hap, ↓hone, ↓hfl, hdf, hb6, hbt, hoi, hki, hbx, hg, List.length_append, Nat.mul_one, hol, hknl, sl, hlt, hc6', hct, hkv, hek, hgb, hkB, hgl, hLm, hf] <;> (try simp (disch := omega) only [wI, wU, wC]) <;> exact rfl); (simp only [push_cast, seval, hgr, hgo, hgs, hgk, hgm, hsm, hB, hb0, hbj, hs0, hsj, hap, ↓hone, ↓hfl, hdf, hb6, hbt, hoi, hki, hbx, hg, List.length_append, Nat.mul_one, hol, hknl, sl, hlt, hc6', hct, hkv, hek, hgb, hkB, hgl, hLm, hf] <;> (try simp (disch := omega) only [wI, wU, wC]) <;> exact rfl)) | (apply Run.gfalse (.bool false); (simp only [push_cast, seval, hgr, hgo, hgs, hgk, hgm, hsm, hB, hb0, hbj, hs0, hsj, hap, ↓hone, ↓hfl, hdf, hb6, hbt, hoi, hki, hbx, hg, List.length_append, Nat.mul_one, hol, hknl, sl, hlt, hc6', hct, hkv, hek, hgb, hkB, hgl, hLm, hf] <;> (try simp (disch := omega) only [wI, wU, wC]) <;> exact rfl); dsimp only [S.put, optG]) | (apply Wp.condT; (simp only [push_cast, seval, hgr, hgo, hgs, hgk, hgm, hsm, hB, hb0, hbj, hs0, hsj, hap, ↓hone, ↓hfl, hdf, hb6, hbt, hoi, hki, hbx, hg, List.length_append, Nat.mul_one, hol, hknl, sl, hlt, hc6', hct, hkv, hek, hgb, hkB, hgl, hLm, hf] <;> (try simp (disch := omega) only [wI, wU, wC]) <;> exact rfl)) | (apply Wp.condF; (simp only [push_cast, seval, hgr, hgo, hgs, hgk, hgm, hsm, hB, hb0, hbj, hs0, hsj, hap, ↓hone, ↓hfl, hdf, hb6, hbt, hoi, hki, hbx, hg, List.length_append, Nat.mul_one, hol, hknl, sl, hlt, hc6', hct, hkv, hek, hgb, hkB, hgl, hLm, hf] <;> (try simp (disch := omega) only [wI, wU, wC]) <;> exact rfl)))
            (apply Wp.runD 10 mixed; (dsimp only [List.map] <;> exact rfl); exact rfl; kernel_rfl; (dsimp only [List.take] <;> exact rfl); (dsimp only [List.drop] <;> exact rfl); (((repeat (apply Abn.next; (simp only [push_cast, seval, hgr, hgo, hgs, hgk, hgm, hsm, hB, hb0, hbj, hs0, hsj, hap, ↓hone, ↓hfl, hdf, hb6, hbt, hoi, hki, hbx, hg, List.length_append, Nat.mul_one, hol, hknl, sl, hlt, hc6', hct, hkv, hek, hgb, hkB, hgl, hLm, hf] <;> (try simp (disch := omega) only [wI, wU, wC]) <;> exact rfl); (focus ((try simp only [push_cast, seval, hgr, hgo, hgs, hgk, hgm, hsm, hB, hb0, hbj, hs0, hsj, hap, ↓hone, ↓hfl, hdf, hb6, hbt, hoi, hki, hbx, hg, List.length_append, Nat.mul_one, hol, hknl, sl, hlt, hc6', hct, hkv, hek, hgb, hkB, hgl, hLm, hf]) <;> exact sT))))); exact Abn.nil))
            repeat (first | apply Wp.seq | apply Wp.block | (apply Run.next; (simp only [push_cast, seval, hgr, hgo, hgs, hgk, hgm, hsm, hB, hb0, hbj, hs0, hsj, hap, ↓hone, ↓hfl, hdf, hb6, hbt, hoi, hki, hbx, hg, List.length_append, Nat.mul_one, hol, hknl, sl, hlt, hc6', hct, hkv, hek, hgb, hkB, hgl, hLm, hf] <;> (try simp (disch := omega) only [wI, wU, wC]) <;> exact rfl); (focus ((try simp only [push_cast, seval, hgr, hgo, hgs, hgk, hgm, hsm, hB, hb0, hbj, hs0, hsj, hap, ↓hone, ↓hfl, hdf, hb6, hbt, hoi, hki, hbx, hg, List.length_append, Nat.mul_one, hol, hknl, sl, hlt, hc6', hct, hkv, hek, hgb, hkB, hgl, hLm, hf]) <;> exact sT))) | ((first | apply Run.nil | apply Wp.skip); dsimp only [sQ, tQ, bQ]) | (apply Wp.run; (dsimp only [List.map] <;> exact rfl); exact rfl) | (apply Wp.exit; dsimp only [sQ, tQ, bQ]; simp only [reduceIte]) | (apply Run.gtrue; (simp only [push_cast, seval, hgr, hgo, hgs, hgk, hgm, hsm, hB, hb0, hbj, hs0, hsj, hap, ↓hone, ↓hfl, hdf, hb6, hbt, hoi, hki, hbx, hg, List.length_append, Nat.mul_one, hol, hknl, sl, hlt, hc6', hct, hkv, hek, hgb, hkB, hgl, hLm, hf] <;> (try simp (disch := omega) only [wI, wU, wC]) <;> exact rfl); (simp only [push_cast, seval, hgr, hgo, hgs, hgk, hgm, hsm, hB, hb0, hbj, hs0, hsj, hap, ↓hone, ↓hfl, hdf, hb6, hbt, hoi, hki, hbx, hg, List.length_append, Nat.mul_one, hol, hknl, sl, hlt, hc6', hct, hkv, hek, hgb, hkB, hgl, hLm, hf] <;> (try simp (disch := omega) only [wI, wU, wC]) <;> exact rfl)) | (apply Run.gfalse (.bool false); (simp only [push_cast, seval, hgr, hgo, hgs, hgk, hgm, hsm, hB, hb0, hbj, hs0, hsj, hap, ↓hone, ↓hfl, hdf, hb6, hbt, hoi, hki, hbx, hg, List.length_append, Nat.mul_one, hol, hknl, sl, hlt, hc6', hct, hkv, hek, hgb, hkB, hgl, hLm, hf] <;> (try simp (disch := omega) only [wI, wU, wC]) <;> exact rfl); dsimp only [S.put, optG]) | (apply Wp.condT; (simp only [push_cast, seval, hgr, hgo, hgs, hgk, hgm, hsm, hB, hb0, hbj, hs0, hsj, hap, ↓hone, ↓hfl, hdf, hb6, hbt, hoi, hki, hbx, hg, List.length_append, Nat.mul_one, hol, hknl, sl, hlt, hc6', hct, hkv, hek, hgb, hkB, hgl, hLm, hf] <;> (try simp (disch := omega) only [wI, wU, wC]) <;> exact rfl)) | (apply Wp.condF; (simp only [push_cast, seval, hgr, hgo, hgs, hgk, hgm, hsm, hB, hb0, hbj, hs0, hsj, hap, ↓hone, ↓hfl, hdf, hb6, hbt, hoi, hki, hbx, hg, List.length_append, Nat.mul_one, hol, hknl, sl, hlt, hc6', hct, hkv, hek, hgb, hkB, hgl, hLm, hf] <;> (try simp (disch := omega) only [wI, wU, wC]) <;> exact rfl)))
            (apply Wp.ret; (try dsimp only [sQ, tQ, bQ]); apply leaveA; exact rfl; (simp only [push_cast, seval, hgr, hgo, hgs, hgk, hgm, hsm, hB, hb0, hbj, hs0, hsj, hap, ↓hone, ↓hfl, hdf, hb6, hbt, hoi, hki, hbx, hg, List.length_append, Nat.mul_one, hol, hknl, sl, hlt, hc6', hct, hkv, hek, hgb, hkB, hgl, hLm, hf] <;> (try simp (disch := omega) only [wI, wU, wC]) <;> exact rfl); (focus (first | (simp only [push_cast, seval, hgr, hgo, hgs, hgk, hgm, hsm, hB, hb0, hbj, hs0, hsj, hap, ↓hone, ↓hfl, hdf, hb6, hbt, hoi, hki, hbx, hg, List.length_append, Nat.mul_one, hol, hknl, sl, hlt, hc6', hct, hkv, hek, hgb, hkB, hgl, hLm, hf]; done) | trivial | (simp only [push_cast, seval, hgr, hgo, hgs, hgk, hgm, hsm, hB, hb0, hbj, hs0, hsj, hap, ↓hone, ↓hfl, hdf, hb6, hbt, hoi, hki, hbx, hg, List.length_append, Nat.mul_one, hol, hknl, sl, hlt, hc6', hct, hkv, hek, hgb, hkB, hgl, hLm, hf]; trivial) | (simp; done))); (try simp only [push_cast, seval, hgr, hgo, hgs, hgk, hgm, hsm, hB, hb0, hbj, hs0, hsj, hap, ↓hone, ↓hfl, hdf, hb6, hbt, hoi, hki, hbx, hg, List.length_append, Nat.mul_one, hol, hknl, sl, hlt, hc6', hct, hkv, hek, hgb, hkB, hgl, hLm, hf]))
            rw [hr1]
            exact ⟨rfl, mp, _, fun _ _ => rfl, hmp, rfl⟩
          · 
            repeat (first | apply Wp.seq | apply Wp.block | (apply Run.next; (simp only [push_cast, seval, hgr, hgo, hgs, hgk, hgm, hsm, hB, hb0, hbj, hs0, hsj, hap, ↓hone, ↓hfl, hdf, hb6, hbt, hoi, hki, hbx, hg, List.length_append, Nat.mul_one, hol, hknl, sl, hlt, hc6', hct, hkv, hek, hgb, hkB, hgl, hLm, hf] <;> (try simp (disch := omega) only [wI, wU, wC]) <;> exact rfl); (focus ((try simp only [push_cast, seval, hgr, hgo, hgs, hgk, hgm, hsm, hB, hb0, hbj, hs0, hsj, hap, ↓hone, ↓hfl, hdf, hb6, hbt, hoi, hki, hbx, hg, List.length_append, Nat.mul_one, hol, hknl, sl, hlt, hc6', hct, hkv, hek, hgb, hkB, hgl, hLm, hf]) <;> exact sT))) | ((first | apply Run.nil | apply Wp.skip); dsimp only [sQ, tQ, bQ]) | (apply Wp.run; (dsimp only [List.map] <;> exact rfl); exact rfl) | (apply Wp.exit; dsimp only [sQ, tQ, bQ]; simp only [reduceIte]) | (apply Run.gtrue; (simp only [push_cast, seval, hgr, hgo, hgs, hgk, hgm, hsm, hB, hb0, hbj, hs0, hsj, hap, ↓hone, ↓hfl, hdf, hb6, hbt, hoi, hki, hbx, hg, List.length_append, Nat.mul_one, hol, hknl, sl, hlt, hc6', hct, hkv, hek, hgb, hkB, hgl, hLm, hf] <;> (try simp (disch := omega) only [wI, wU, wC]) <;> exact rfl); (simp only [push_cast, seval, hgr, hgo, hgs, hgk, hgm, hsm, hB, hb0, hbj, hs0, hsj, hap, ↓hone, ↓hfl, hdf, hb6, hbt, hoi, hki, hbx, hg, List.length_append, Nat.mul_one, hol, hknl, sl, hlt, hc6', hct, hkv, hek, hgb, hkB, hgl, hLm, hf] <;> (try simp (disch := omega) only [wI, wU, wC]) <;> exact rfl)) | (apply Run.gfalse (.bool false); (simp only [push_cast, seval, hgr, hgo, hgs, hgk, hgm, hsm, hB, hb0, hbj, hs0, hsj, hap, ↓hone, ↓hfl, hdf, hb6, hbt, hoi, hki, hbx, hg, List.length_append, Nat.mul_one, hol, hknl, sl, hlt, hc6', hct, hkv, hek, hgb, hkB, hgl, hLm, hf] <;> (try simp (disch := omega) only [wI, wU, wC]) <;> exact rfl); dsimp only [S.put, optG]) | (apply Wp.condT; (simp only [push_cast, seval, hgr, hgo, hgs, hgk, hgm, hsm, hB, hb0, hbj, hs0, hsj, hap, ↓hone, ↓hfl, hdf, hb6, hbt, hoi, hki, hbx, hg, List.length_append, Nat.mul_one, hol, hknl, sl, hlt, hc6', hct, hkv, hek, hgb, hkB, hgl, hLm, hf] <;> (try simp (disch := omega) only [wI, wU, wC]) <;> exact rfl)) | (apply Wp.condF; (simp only [push_cast, seval, hgr, hgo, hgs, hgk, hgm, hsm, hB, hb0, hbj, hs0, hsj, hap, ↓hone, ↓hfl, hdf, hb6, hbt, hoi, hki, hbx, hg, List.length_append, Nat.mul_one, hol, hknl, sl, hlt, hc6', hct, hkv, hek, hgb, hkB, hgl, hLm, hf] <;> (try simp (disch := omega) only [wI, wU, wC]) <;> exact rfl)))
            (apply Wp.runD 10 mixed; (dsimp only [List.map] <;> exact rfl); exact rfl; kernel_rfl; (dsimp only [List.take] <;> exact rfl); (dsimp only [List.drop] <;> exact rfl); (((repeat (apply Abn.next; (simp only [push_cast, seval, hgr, hgo, hgs, hgk, hgm, hsm, hB, hb0, hbj, hs0, hsj, hap, ↓hone, ↓hfl, hdf, hb6, hbt, hoi, hki, hbx, hg, List.length_append, Nat.mul_one, hol, hknl, sl, hlt, hc6', hct, hkv, hek, hgb, hkB, hgl, hLm, hf] <;> (try simp (disch := omega) only [wI, wU, wC]) <;> exact rfl); (focus ((try simp only [push_cast, seval, hgr, hgo, hgs, hgk, hgm, hsm, hB, hb0, hbj, hs0, hsj, hap, ↓hone, ↓hfl, hdf, hb6, hbt, hoi, hki, hbx, hg, List.length_append, Nat.mul_one, hol, hknl, sl, hlt, hc6', hct, hkv, hek, hgb, hkB, hgl, hLm, hf]) <;> exact sT))))); exact Abn.nil))
            repeat (first | apply Wp.seq | apply Wp.block | (apply Run.next; (simp only [push_cast, seval, hgr, hgo, hgs, hgk, hgm, hsm, hB, hb0, hbj, hs0, hsj, hap, ↓hone, ↓hfl, hdf, hb6, hbt, hoi, hki, hbx, hg, List.length_append, Nat.mul_one, hol, hknl, sl, hlt, hc6', hct, hkv, hek, hgb, hkB, hgl, hLm, hf] <;> (try simp (disch := omega) only [wI, wU, wC]) <;> exact rfl); (focus ((try simp only [push_cast, seval, hgr, hgo, hgs, hgk, hgm, hsm, hB, hb0, hbj, hs0, hsj, hap, ↓hone, ↓hfl, hdf, hb6, hbt, hoi, hki, hbx, hg, List.length_append, Nat.mul_one, hol, hknl, sl, hlt, hc6', hct, hkv, hek, hgb, hkB, hgl, hLm, hf]) <;> exact sT))) | ((first | apply Run.nil | apply Wp.skip); dsimp only [sQ, tQ, bQ]) | (apply Wp.run; (dsimp only [List.map] <;> exact rfl); exact rfl) | (apply Wp.exit; dsimp only [sQ, tQ, bQ]; simp only [reduceIte]) | (apply Run.gtrue; (simp only [push_cast, seval, hgr, hgo, hgs, hgk, hgm, hsm, hB, hb0, hbj, hs0, hsj, hap, ↓hone, ↓hfl, hdf, hb6, hbt, hoi, hki, hbx, hg, List.length_append, Nat.mul_one, hol, hknl, sl, hlt, hc6', hct, hkv, hek, hgb, hkB, hgl, hLm, hf] <;> (try simp (disch := omega) only [wI, wU, wC]) <;> exact rfl); (simp only [push_cast, seval, hgr, hgo, hgs, hgk, hgm, hsm, hB, hb0, hbj, hs0, hsj, hap, ↓hone, ↓hfl, hdf, hb6, hbt, hoi, hki, hbx, hg, List.length_append, Nat.mul_one, hol, hknl, sl, hlt, hc6', hct, hkv, hek, hgb, hkB, hgl, hLm, hf] <;> (try simp (disch := omega) only [wI, wU, wC]) <;> exact rfl)) | (apply Run.gfalse (.bool false); (simp only [push_cast, seval, hgr, hgo, hgs, hgk, hgm, hsm, hB, hb0, hbj, hs0, hsj, hap, ↓hone, ↓hfl, hdf, hb6, hbt, hoi, hki, hbx, hg, List.length_append, Nat.mul_one, hol, hknl, sl, hlt, hc6', hct, hkv, hek, hgb, hkB, hgl, hLm, hf] <;> (try simp (disch := omega) only [wI, wU, wC]) <;> exact rfl); dsimp only [S.put, optG]) | (apply Wp.condT; (simp only [push_cast, seval, hgr, hgo, hgs, hgk, hgm, hsm, hB, hb0, hbj, hs0, hsj, hap, ↓hone, ↓hfl, hdf, hb6, hbt, hoi, hki, hbx, hg, List.length_append, Nat.mul_one, hol, hknl, sl, hlt, hc6', hct, hkv, hek, hgb, hkB, hgl, hLm, hf] <;> (try simp (disch := omega) only [wI, wU, wC]) <;> exact rfl)) | (apply Wp.condF; (simp only [push_cast, seval, hgr, hgo, hgs, hgk, hgm, hsm, hB, hb0, hbj, hs0, hsj, hap, ↓hone, ↓hfl, hdf, hb6, hbt, hoi, hki, hbx, hg, List.length_append, Nat.mul_one, hol, hknl, sl, hlt, hc6', hct, hkv, hek, hgb, hkB, hgl, hLm, hf] <;> (try simp (disch := omega) only [wI, wU, wC]) <;> exact rfl)))
            (apply Wp.ret; (try dsimp only [sQ, tQ, bQ]); apply leaveA; exact rfl; (simp only [push_cast, seval, hgr, hgo, hgs, hgk, hgm, hsm, hB, hb0, hbj, hs0, hsj, hap, ↓hone, ↓hfl, hdf, hb6, hbt, hoi, hki, hbx, hg, List.length_append, Nat.mul_one, hol, hknl, sl, hlt, hc6', hct, hkv, hek, hgb, hkB, hgl, hLm, hf] <;> (try simp (disch := omega) only [wI, wU, wC]) <;> exact rfl); (focus (first | (simp only [push_cast, seval, hgr, hgo, hgs, hgk, hgm, hsm, hB, hb0, hbj, hs0, hsj, hap, ↓hone, ↓hfl, hdf, hb6, hbt, hoi, hki, hbx, hg, List.length_append, Nat.mul_one, hol, hknl, sl, hlt, hc6', hct, hkv, hek, hgb, hkB, hgl, hLm, hf]; done) | trivial | (simp only [push_cast, seval, hgr, hgo, hgs, hgk, hgm, hsm, hB, hb0, hbj, hs0, hsj, hap, ↓hone, ↓hfl, hdf, hb6, hbt, hoi, hki, hbx, hg, List.length_append, Nat.mul_one, hol, hknl, sl, hlt, hc6', hct, hkv, hek, hgb, hkB, hgl, hLm, hf]; trivial) | (simp; done))); (try simp only [push_cast, seval, hgr, hgo, hgs, hgk, hgm, hsm, hB, hb0, hbj, hs0, hsj, hap, ↓hone, ↓hfl, hdf, hb6, hbt, hoi, hki, hbx, hg, List.length_append, Nat.mul_one, hol, hknl, sl, hlt, hc6', hct, hkv, hek, hgb, hkB, hgl, hLm, hf]))
            rw [hr1]
            exact ⟨rfl, mp, _, fun _ _ => rfl, hmp, rfl⟩
        | none =>
          have hgl1 := goodL_upd hcB (.int 2) L0 hgl
          have hfu := fun d => findL_upd L0 c d (.int 2)
          have hfc : findL (updL L0 (kyV c) (.int 2)) (kyV c) = some (.int 2) := by rw [hfu c, if_pos rfl]
          have hus := fun L => upM_same mp i L
          generalize hL1 : updL L0 (kyV c) (.int 2) = L1 at hgl1 hfu hfc
          repeat (first | apply Wp.seq | apply Wp.block | (apply Run.next; (simp only [push_cast, seval, hgr, hgo, hgs, hgk, hgm, hsm, hB, hb0, hbj, hs0, hsj, hap, ↓hone, ↓hfl, hdf, hb6, hbt, hoi, hki, hbx, hg, List.length_append, Nat.mul_one, hol, hknl, sl, hlt, hc6', hct, hkv, hek, hgb, hkB, hgl, hLm, hf, hL1, hus] <;> (try simp (disch := omega) only [wI, wU, wC]) <;> exact rfl); (focus ((try simp only [push_cast, seval, hgr, hgo, hgs, hgk, hgm, hsm, hB, hb0, hbj, hs0, hsj, hap, ↓hone, ↓hfl, hdf, hb6, hbt, hoi, hki, hbx, hg, List.length_append, Nat.mul_one, hol, hknl, sl, hlt, hc6', hct, hkv, hek, hgb, hkB, hgl, hLm, hf, hL1, hus]) <;> exact sT))) | ((first | apply Run.nil | apply Wp.skip); dsimp only [sQ, tQ, bQ]) | (apply Wp.run; (dsimp only [List.map] <;> exact rfl); exact rfl) | (apply Wp.exit; dsimp only [sQ, tQ, bQ]; simp only [reduceIte]) | (apply Run.gtrue; (simp only [push_cast, seval, hgr, hgo, hgs, hgk, hgm, hsm, hB, hb0, hbj, hs0, hsj, hap, ↓hone, ↓hfl, hdf, hb6, hbt, hoi, hki, hbx, hg, List.length_append, Nat.mul_one, hol, hknl, sl, hlt, hc6', hct, hkv, hek, hgb, hkB, hgl, hLm, hf, hL1, hus] <;> (try simp (disch := omega) only [wI, wU, wC]) <;> exact rfl); (simp only [push_cast, seval, hgr, hgo, hgs, hgk, hgm, hsm, hB, hb0, hbj, hs0, hsj, hap, ↓hone, ↓hfl, hdf, hb6, hbt, hoi, hki, hbx, hg, List.length_append, Nat.mul_one, hol, hknl, sl, hlt, hc6', hct, hkv, hek, hgb, hkB, hgl, hLm, hf, hL1, hus] <;> (try simp (disch := omega) only [wI, wU, wC]) <;> exact rfl)) | (apply Run.gfalse (.bool false); (simp only [push_cast, seval, hgr, hgo, hgs, hgk, hgm, hsm, hB, hb0, hbj, hs0, hsj, hap, ↓hone, ↓hfl, hdf, hb6, hbt, hoi, hki, hbx, hg, List.length_append, Nat.mul_one, hol, hknl, sl, hlt, hc6', hct, hkv, hek, hgb, hkB, hgl, hLm, hf, hL1, hus] <;> (try simp (disch := omega) only [wI, wU, wC]) <;> exact rfl); dsimp only [S.put, optG]) | (apply Wp.condT; (simp only [push_cast, seval, hgr, hgo, hgs, hgk, hgm, hsm, hB, hb0, hbj, hs0, hsj, hap, ↓hone, ↓hfl, hdf, hb6, hbt, hoi, hki, hbx, hg, List.length_append, Nat.mul_one, hol, hknl, sl, hlt, hc6', hct, hkv, hek, hgb, hkB, hgl, hLm, hf, hL1, hus] <;> (try simp (disch := omega) only [wI, wU, wC]) <;> exact rfl)) | (apply Wp.condF; (simp only [push_cast, seval, hgr, hgo, hgs, hgk, hgm, hsm, hB, hb0, hbj, hs0, hsj, hap, ↓hone, ↓hfl, hdf, hb6, hbt, hoi, hki, hbx, hg, List.length_append, Nat.mul_one, hol, hknl, sl, hlt, hc6', hct, hkv, hek, hgb, hkB, hgl, hLm, hf, hL1, hus] <;> (try simp (disch := omega) only [wI, wU, wC]) <;> exact rfl)))
          (apply Wp.runD 10 mixed; (dsimp only [List.map] <;> exact rfl); exact rfl; kernel_rfl; (dsimp only [List.take] <;> exact rfl); (dsimp only [List.drop] <;> exact rfl); (((repeat (apply Abn.next; (simp only [push_cast, seval, hgr, hgo, hgs, hgk, hgm, hsm, hB, hb0, hbj, hs0, hsj, hap, ↓hone, ↓hfl, hdf, hb6, hbt, hoi, hki, hbx, hg, List.length_append, Nat.mul_one, hol, hknl, sl, hlt, hc6', hct, hkv, hek, hgb, hkB, hgl, hLm, hf, hL1, hus] <;> (try simp (disch := omega) only [wI, wU, wC]) <;> exact rfl); (focus ((try simp only [push_cast, seval, hgr, hgo, hgs, hgk, hgm, hsm, hB, hb0, hbj, hs0, hsj, hap, ↓hone, ↓hfl, hdf, hb6, hbt, hoi, hki, hbx, hg, List.length_append, Nat.mul_one, hol, hknl, sl, hlt, hc6', hct, hkv, hek, hgb, hkB, hgl, hLm, hf, hL1, hus]) <;> exact sT))))); exact Abn.nil))
          repeat (first | apply Wp.seq | apply Wp.block | (apply Run.next; (simp only [push_cast, seval, hgr, hgo, hgs, hgk, hgm, hsm, hB, hb0, hbj, hs0, hsj, hap, ↓hone, ↓hfl, hdf, hb6, hbt, hoi, hki, hbx, hg, List.length_append, Nat.mul_one, hol, hknl, sl, hlt, hc6', hct, hkv, hek, hgb, hkB, hgl, hLm, hf, hL1, hus] <;> (try simp (disch := omega) only [wI, wU, wC]) <;> exact rfl); (focus ((try simp only [push_cast, seval, hgr, hgo, hgs, hgk, hgm, hsm, hB, hb0, hbj, hs0, hsj, hap, ↓hone, ↓hfl, hdf, hb6, hbt, hoi, hki, hbx, hg, List.length_append, Nat.mul_one, hol, hknl, sl, hlt, hc6', hct, hkv, hek, hgb, hkB, hgl, hLm, hf, hL1, hus]) <;> exact sT))) | ((first | apply Run.nil | apply Wp.skip); dsimp only [sQ, tQ, bQ]) | (apply Wp.run; (dsimp only [List.map] <;> exact rfl); exact rfl) | (apply Wp.exit; dsimp only [sQ, tQ, bQ]; simp only [reduceIte]) | (apply Run.gtrue; (simp only [push_cast, seval, hgr, hgo, hgs, hgk, hgm, hsm, hB, hb0, hbj, hs0, hsj, hap, ↓hone, ↓hfl, hdf, hb6, hbt, hoi, hki, hbx, hg, List.length_append, Nat.mul_one, hol, hknl, sl, hlt, hc6', hct, hkv, hek, hgb, hkB, hgl, hLm, hf, hL1, hus] <;> (try simp (disch := omega) only [wI, wU, wC]) <;> exact rfl); (simp only [push_cast, seval, hgr, hgo, hgs, hgk, hgm, hsm, hB, hb0, hbj, hs0, hsj, hap, ↓hone, ↓hfl, hdf, hb6, hbt, hoi, hki, hbx, hg, List.length_append, Nat.mul_one, hol, hknl, sl, hlt, hc6', hct, hkv, hek, hgb, hkB, hgl, hLm, hf, hL1, hus] <;> (try simp (disch := omega) only [wI, wU, wC]) <;> exact rfl)) | (apply Run.gfalse (.bool false); (simp only [push_cast, seval, hgr, hgo, hgs, hgk, hgm, hsm, hB, hb0, hbj, hs0, hsj, hap, ↓hone, ↓hfl, hdf, hb6, hbt, hoi, hki, hbx, hg, List.length_append, Nat.mul_one, hol, hknl, sl, hlt, hc6', hct, hkv, hek, hgb, hkB, hgl, hLm, hf, hL1, hus] <;> (try simp (disch := omega) only [wI, wU, wC]) <;> exact rfl); dsimp only [S.put, optG]) | (apply Wp.condT; (simp only [push_cast, seval, hgr, hgo, hgs, hgk, hgm, hsm, hB, hb0, hbj, hs0, hsj, hap, ↓hone, ↓hfl, hdf, hb6, hbt, hoi, hki, hbx, hg, List.length_append, Nat.mul_one, hol, hknl, sl, hlt, hc6', hct, hkv, hek, hgb, hkB, hgl, hLm, hf, hL1, hus] <;> (try simp (disch := omega) only [wI, wU, wC]) <;> exact rfl)) | (apply Wp.condF; (simp only [push_cast, seval, hgr, hgo, hgs, hgk, hgm, hsm, hB, hb0, hbj, hs0, hsj, hap, ↓hone, ↓hfl, hdf, hb6, hbt, hoi, hki, hbx, hg, List.length_append, Nat.mul_one, hol, hknl, sl, hlt, hc6', hct, hkv, hek, hgb, hkB, hgl, hLm, hf, hL1, hus] <;> (try simp (disch := omega) only [wI, wU, wC]) <;> exact rfl)))
          (apply Wp.runE 8 8 mixed; (dsimp only [List.map] <;> exact rfl); exact rfl; kernel_rfl; ((repeat (apply Abe.next; exact rfl; (simp only [push_cast, seval, hgr, hgo, hgs, hgk, hgm, hsm, hB, hb0, hbj, hs0, hsj, hap, ↓hone, ↓hfl, hdf, hb6, hbt, hoi, hki, hbx, hg, List.length_append, Nat.mul_one, hol, hknl, sl, hlt, hc6', hct, hkv, hek, hgb, hkB, hgl, hLm, hf, hL1, hus] <;> (try simp (disch := omega) only [wI, wU, wC]) <;> exact rfl); (focus ((try simp only [push_cast, seval, hgr, hgo, hgs, hgk, hgm, hsm, hB, hb0, hbj, hs0, hsj, hap, ↓hone, ↓hfl, hdf, hb6, hbt, hoi, hki, hbx, hg, List.length_append, Nat.mul_one, hol, hknl, sl, hlt, hc6', hct, hkv, hek, hgb, hkB, hgl, hLm, hf, hL1, hus]) <;> exact sT)))); (apply Abe.eff; exact rfl; (simp only [push_cast, seval, hgr, hgo, hgs, hgk, hgm, hsm, hB, hb0, hbj, hs0, hsj, hap, ↓hone, ↓hfl, hdf, hb6, hbt, hoi, hki, hbx, hg, List.length_append, Nat.mul_one, hol, hknl, sl, hlt, hc6', hct, hkv, hek, hgb, hkB, hgl, hLm, hf, hL1, hus] <;> (try simp (disch := omega) only [wI, wU, wC]) <;> exact rfl); (focus ((try simp only [push_cast, seval, hgr, hgo, hgs, hgk, hgm, hsm, hB, hb0, hbj, hs0, hsj, hap, ↓hone, ↓hfl, hdf, hb6, hbt, hoi, hki, hbx, hg, List.length_append, Nat.mul_one, hol, hknl, sl, hlt, hc6', hct, hkv, hek, hgb, hkB, hgl, hLm, hf, hL1, hus]) <;> exact sT)); (try dsimp only [putA])); exact Abe.nil))
          repeat (first | apply Wp.seq | apply Wp.block | (apply Run.next; (simp only [push_cast, seval, hgr, hgo, hgs, hgk, hgm, hsm, hB, hb0, hbj, hs0, hsj, hap, ↓hone, ↓hfl, hdf, hb6, hbt, hoi, hki, hbx, hg, List.length_append, Nat.mul_one, hol, hknl, sl, hlt, hc6', hct, hkv, hek, hgb, hkB, hgl, hLm, hf, hL1, hus] <;> (try simp (disch := omega) only [wI, wU, wC]) <;> exact rfl); (focus ((try simp only [push_cast, seval, hgr, hgo, hgs, hgk, hgm, hsm, hB, hb0, hbj, hs0, hsj, hap, ↓hone, ↓hfl, hdf, hb6, hbt, hoi, hki, hbx, hg, List.length_append, Nat.mul_one, hol, hknl, sl, hlt, hc6', hct, hkv, hek, hgb, hkB, hgl, hLm, hf, hL1, hus]) <;> exact sT))) | ((first | apply Run.nil | apply Wp.skip); dsimp only [sQ, tQ, bQ]) | (apply Wp.run; (dsimp only [List.map] <;> exact rfl); exact rfl) | (apply Wp.exit; dsimp only [sQ, tQ, bQ]; simp only [reduceIte]))
          (refine Wp.vacs 1 ?_; (try simp only [List.replicate_succ, List.replicate_zero, List.cons_append, List.nil_append]))
          refine Wp.loop (fun (q : Nat × (Nat → List (Value × AV)) × (Nat × Kind) × Mem) => { t := [(0, .optr r vr 0 0), (1, .int i), (5, .optr B 0 0 0), (7, .optr (B + 1) 1 0 0), (8, .optr (B + 2) 1 0 0), (79, .int ms.length), (80, .int q.1)], m := Mm F ls.length q.2.1 G ++ (⟨0, .row 6 [.agg (c.map AV.int)]⟩ :: ⟨1, .row 6 [bkA bx]⟩ :: ⟨1, .row 2 [spA bx.st eg]⟩ :: ⟨q.2.2.1.1, q.2.2.1.2⟩ :: q.2.2.2), n := 148 })
            (fun q => q.1 ≤ ms.length ∧ (∀ m, m < q.1 → (okS cs ms ls stf x m c && rF cs ms ls stf xs (c.set m eg)) = false) ∧ q.2.1 i = L1 ∧ (∀ j, j < i → q.2.1 j = mp j) ∧ (∀ j, i + 1 ≤ j → j < ls.length → MO cs ms ls stf (o.drop j) (q.2.1 j))) (fun q => ms.length - q.1) (0, upM mp i L1, (0, .row 1 []), []) ?_ ?_ ?_
          · (refine Le.of ?_ ?_ rfl rfl <;> (try simp only [push_cast, seval, hgr, hgo, hgs, hgk, hgm, hsm, hB, hb0, hbj, hs0, hsj, hap, ↓hone, ↓hfl, hdf, hb6, hbt, hoi, hki, hbx, hg, List.length_append, Nat.mul_one, hol, hknl, sl, hlt, hc6', hct, hkv, hek, hgb, hkB, hgl, hLm, hf, hL1, hus]) <;> (try (with_reducible rfl)))
            all_goals rfl
          · refine ⟨Nat.zero_le _, fun m hm => absurd hm (Nat.not_lt_zero _), hus L1, fun j hj => upM_ne mp L1 (by omega), fun j hj hj2 => ?_⟩
            simp only
            rw [upM_ne mp L1 (by omega)]
            exact hmp j (by omega) hj2
          · rintro ⟨k, mp1, ⟨v, kd⟩, J⟩ ⟨hk1, hk2, hk3, hk4, hk5⟩
            simp only at hk1 hk2 hk3 hk4 hk5
            repeat (first | apply Wp.seq | apply Wp.block | (apply Run.calm; exact rfl; (simp only [push_cast, seval, hgr, hgo, hgs, hgk, hgm, hsm, hB, hb0, hbj, hs0, hsj, hap, ↓hone, ↓hfl, hdf, hb6, hbt, hoi, hki, hbx, hg, List.length_append, Nat.mul_one, hol, hknl, sl, hc6', hct, hkv, hek, hgb, hkB, hgl1, hfc, hk3] <;> (try simp (disch := omega) only [wI, wU, wC]) <;> exact rfl); (focus ((try simp only [push_cast, seval, hgr, hgo, hgs, hgk, hgm, hsm, hB, hb0, hbj, hs0, hsj, hap, ↓hone, ↓hfl, hdf, hb6, hbt, hoi, hki, hbx, hg, List.length_append, Nat.mul_one, hol, hknl, sl, hc6', hct, hkv, hek, hgb, hkB, hgl1, hfc, hk3]) <;> exact sT))) | ((first | apply Run.nil | apply Wp.skip); dsimp only [sQ, tQ, bQ]) | (apply Wp.run; (dsimp only [List.map] <;> exact rfl); exact rfl) | (apply Wp.exit; dsimp only [sQ, tQ, bQ]; simp only [reduceIte]))
            (apply Wp.cond; (simp only [push_cast, seval, hgr, hgo, hgs, hgk, hgm, hsm, hB, hb0, hbj, hs0, hsj, hap, ↓hone, ↓hfl, hdf, hb6, hbt, hoi, hki, hbx, hg, List.length_append, Nat.mul_one, hol, hknl, sl, hc6', hct, hkv, hek, hgb, hkB, hgl1, hfc, hk3] <;> (try simp (disch := omega) only [wI, wU, wC]) <;> exact rfl))
            · intro hcm
              simp only [decide_eq_true_eq, Int.ofNat_lt] at hcm
              have hldk := hld (k : Int) (by omega)
              simp only [Int.toNat_natCast] at hldk
              have hck : ∀ d, (List.map AV.int c).getD k d = .int (c.getD k 0) := fun d => by
                simp [List.getD_eq_getElem?_getD, show k < c.length by omega]
              have hmk := set_mid c k eg (by omega)
              have hsB := set_BB hcB k (z := eg) (by omega)
              have hst : (c.set k eg).take 6 = c.set k eg := List.take_of_length_le (by simp; omega)
              have hok := hokS k c
              repeat (first | apply Wp.seq | apply Wp.block | (apply Run.calm; exact rfl; (simp only [push_cast, seval, hgr, hgo, hgs, hgk, hgm, hsm, hB, hb0, hbj, hs0, hsj, hap, ↓hone, ↓hfl, hdf, hb6, hbt, hoi, hki, hbx, hg, List.length_append, Nat.mul_one, hol, hknl, sl, hc6', hct, hkv, hek, hgb, hkB, hgl1, hfc, hk3, hck, hmk, hst] <;> (try simp (disch := omega) only [wI, wU, wC]) <;> exact rfl); (focus ((try simp only [push_cast, seval, hgr, hgo, hgs, hgk, hgm, hsm, hB, hb0, hbj, hs0, hsj, hap, ↓hone, ↓hfl, hdf, hb6, hbt, hoi, hki, hbx, hg, List.length_append, Nat.mul_one, hol, hknl, sl, hc6', hct, hkv, hek, hgb, hkB, hgl1, hfc, hk3, hck, hmk, hst]) <;> exact sT))) | ((first | apply Run.nil | apply Wp.skip); dsimp only [sQ, tQ, bQ]) | (apply Wp.run; (dsimp only [List.map] <;> exact rfl); exact rfl) | (apply Wp.exit; dsimp only [sQ, tQ, bQ]; simp only [reduceIte]))
              (apply Wp.runD 14 mixed; (dsimp only [List.map] <;> exact rfl); exact rfl; kernel_rfl; (dsimp only [List.take] <;> exact rfl); (dsimp only [List.drop] <;> exact rfl); (((repeat (apply Abn.next; (simp only [push_cast, seval, hgr, hgo, hgs, hgk, hgm, hsm, hB, hb0, hbj, hs0, hsj, hap, ↓hone, ↓hfl, hdf, hb6, hbt, hoi, hki, hbx, hg, List.length_append, Nat.mul_one, hol, hknl, sl, hc6', hct, hkv, hek, hgb, hkB, hgl1, hfc, hk3, hck, hmk, hst] <;> (try simp (disch := omega) only [wI, wU, wC]) <;> exact rfl); (focus ((try simp only [push_cast, seval, hgr, hgo, hgs, hgk, hgm, hsm, hB, hb0, hbj, hs0, hsj, hap, ↓hone, ↓hfl, hdf, hb6, hbt, hoi, hki, hbx, hg, List.length_append, Nat.mul_one, hol, hknl, sl, hc6', hct, hkv, hek, hgb, hkB, hgl1, hfc, hk3, hck, hmk, hst]) <;> exact sT))))); exact Abn.nil))
              repeat (first | apply Wp.seq | apply Wp.block | (apply Run.next; (simp only [push_cast, seval, hgr, hgo, hgs, hgk, hgm, hsm, hB, hb0, hbj, hs0, hsj, hap, ↓hone, ↓hfl, hdf, hb6, hbt, hoi, hki, hbx, hg, List.length_append, Nat.mul_one, hol, hknl, sl, hc6', hct, hkv, hek, hgb, hkB, hgl1, hfc, hk3, hck, hmk, hst] <;> (try simp (disch := omega) only [wI, wU, wC]) <;> exact rfl); (focus ((try simp only [push_cast, seval, hgr, hgo, hgs, hgk, hgm, hsm, hB, hb0, hbj, hs0, hsj, hap, ↓hone, ↓hfl, hdf, hb6, hbt, hoi, hki, hbx, hg, List.length_append, Nat.mul_one, hol, hknl, sl, hc6', hct, hkv, hek, hgb, hkB, hgl1, hfc, hk3, hck, hmk, hst]) <;> exact sT))) | ((first | apply Run.nil | apply Wp.skip); dsimp only [sQ, tQ, bQ]) | (apply Wp.run; (dsimp only [List.map] <;> exact rfl); exact rfl) | (apply Wp.exit; dsimp only [sQ, tQ, bQ]; simp only [reduceIte]))
              (apply Wp.runD 23 mixed; (dsimp only [List.map] <;> exact rfl); exact rfl; kernel_rfl; (dsimp only [List.take] <;> exact rfl); (dsimp only [List.drop] <;> exact rfl); (((repeat (apply Abn.next; (simp only [push_cast, seval, hgr, hgo, hgs, hgk, hgm, hsm, hB, hb0, hbj, hs0, hsj, hap, ↓hone, ↓hfl, hdf, hb6, hbt, hoi, hki, hbx, hg, List.length_append, Nat.mul_one, hol, hknl, sl, hc6', hct, hkv, hek, hgb, hkB, hgl1, hfc, hk3, hck, hmk, hst] <;> (try simp (disch := omega) only [wI, wU, wC]) <;> exact rfl); (focus ((try simp only [push_cast, seval, hgr, hgo, hgs, hgk, hgm, hsm, hB, hb0, hbj, hs0, hsj, hap, ↓hone, ↓hfl, hdf, hb6, hbt, hoi, hki, hbx, hg, List.length_append, Nat.mul_one, hol, hknl, sl, hc6', hct, hkv, hek, hgb, hkB, hgl1, hfc, hk3, hck, hmk, hst]) <;> exact sT)))); (apply Abn.pureP; (simp only [push_cast, seval, hgr, hgo, hgs, hgk, hgm, hsm, hB, hb0, hbj, hs0, hsj, hap, ↓hone, ↓hfl, hdf, hb6, hbt, hoi, hki, hbx, hg, List.length_append, Nat.mul_one, hol, hknl, sl, hc6', hct, hkv, hek, hgb, hkB, hgl1, hfc, hk3, hck, hmk, hst] <;> (try simp (disch := omega) only [wI, wU, wC]) <;> exact rfl); (exact (Enters.of Try.func66 rfl rfl)); (exact hldk); (focus (simp only [push_cast, seval, hgr, hgo, hgs, hgk, hgm, hsm, hB, hb0, hbj, hs0, hsj, hap, ↓hone, ↓hfl, hdf, hb6, hbt, hoi, hki, hbx, hg, List.length_append, Nat.mul_one, hol, hknl, sl, hc6', hct, hkv, hek, hgb, hkB, hgl1, hfc, hk3, hck, hmk, hst] <;> first | trivial | assumption | (refine ⟨?_, ?_⟩ <;> assumption) | (simp; done))); (try dsimp only [putA, optG])); (repeat (apply Abn.next; (simp only [push_cast, seval, hgr, hgo, hgs, hgk, hgm, hsm, hB, hb0, hbj, hs0, hsj, hap, ↓hone, ↓hfl, hdf, hb6, hbt, hoi, hki, hbx, hg, List.length_append, Nat.mul_one, hol, hknl, sl, hc6', hct, hkv, hek, hgb, hkB, hgl1, hfc, hk3, hck, hmk, hst] <;> (try simp (disch := omega) only [wI, wU, wC]) <;> exact rfl); (focus ((try simp only [push_cast, seval, hgr, hgo, hgs, hgk, hgm, hsm, hB, hb0, hbj, hs0, hsj, hap, ↓hone, ↓hfl, hdf, hb6, hbt, hoi, hki, hbx, hg, List.length_append, Nat.mul_one, hol, hknl, sl, hc6', hct, hkv, hek, hgb, hkB, hgl1, hfc, hk3, hck, hmk, hst]) <;> exact sT))))); exact Abn.nil))
              repeat (first | apply Wp.seq | apply Wp.block | (apply Run.next; (simp only [push_cast, seval, hgr, hgo, hgs, hgk, hgm, hsm, hB, hb0, hbj, hs0, hsj, hap, ↓hone, ↓hfl, hdf, hb6, hbt, hoi, hki, hbx, hg, List.length_append, Nat.mul_one, hol, hknl, sl, hc6', hct, hkv, hek, hgb, hkB, hgl1, hfc, hk3, hck, hmk, hst] <;> (try simp (disch := omega) only [wI, wU, wC]) <;> exact rfl); (focus ((try simp only [push_cast, seval, hgr, hgo, hgs, hgk, hgm, hsm, hB, hb0, hbj, hs0, hsj, hap, ↓hone, ↓hfl, hdf, hb6, hbt, hoi, hki, hbx, hg, List.length_append, Nat.mul_one, hol, hknl, sl, hc6', hct, hkv, hek, hgb, hkB, hgl1, hfc, hk3, hck, hmk, hst]) <;> exact sT))) | ((first | apply Run.nil | apply Wp.skip); dsimp only [sQ, tQ, bQ]) | (apply Wp.run; (dsimp only [List.map] <;> exact rfl); exact rfl) | (apply Wp.exit; dsimp only [sQ, tQ, bQ]; simp only [reduceIte]))
              (apply Wp.cond; (simp only [push_cast, seval, hgr, hgo, hgs, hgk, hgm, hsm, hB, hb0, hbj, hs0, hsj, hap, ↓hone, ↓hfl, hdf, hb6, hbt, hoi, hki, hbx, hg, List.length_append, Nat.mul_one, hol, hknl, sl, hc6', hct, hkv, hek, hgb, hkB, hgl1, hfc, hk3, hck, hmk, hst] <;> (try simp (disch := omega) only [wI, wU, wC]) <;> exact rfl))
              · intro h4
                rw [h4] at hok
                repeat (first | apply Wp.seq | apply Wp.block | (apply Run.next; (simp only [push_cast, seval, hgr, hgo, hgs, hgk, hgm, hsm, hB, hb0, hbj, hs0, hsj, hap, ↓hone, ↓hfl, hdf, hb6, hbt, hoi, hki, hbx, hg, List.length_append, Nat.mul_one, hol, hknl, sl, hc6', hct, hkv, hek, hgb, hkB, hgl1, hfc, hk3, hck, hmk, hst] <;> (try simp (disch := omega) only [wI, wU, wC]) <;> exact rfl); (focus ((try simp only [push_cast, seval, hgr, hgo, hgs, hgk, hgm, hsm, hB, hb0, hbj, hs0, hsj, hap, ↓hone, ↓hfl, hdf, hb6, hbt, hoi, hki, hbx, hg, List.length_append, Nat.mul_one, hol, hknl, sl, hc6', hct, hkv, hek, hgb, hkB, hgl1, hfc, hk3, hck, hmk, hst]) <;> exact sT))) | ((first | apply Run.nil | apply Wp.skip); dsimp only [sQ, tQ, bQ]) | (apply Wp.run; (dsimp only [List.map] <;> exact rfl); exact rfl) | (apply Wp.exit; dsimp only [sQ, tQ, bQ]; simp only [reduceIte]))
                refine ⟨(k + 1, mp1, (v, kd), J), ?_, ⟨by simp only; omega, fun m hm => ?_, hk3, hk4, hk5⟩, by simp only; omega⟩
                · (refine Le.of ?_ ?_ rfl rfl <;> (try simp only [push_cast, seval, hgr, hgo, hgs, hgk, hgm, hsm, hB, hb0, hbj, hs0, hsj, hap, ↓hone, ↓hfl, hdf, hb6, hbt, hoi, hki, hbx, hg, List.length_append, Nat.mul_one, hol, hknl, sl, hc6', hct, hkv, hek, hgb, hkB, hgl1, hfc, hk3, hck, hmk, hst]) <;> (try (with_reducible rfl)))
                · simp only at hm
                  by_cases hmk' : m = k
                  · subst hmk'; rw [hok]; rfl
                  · exact hk2 m (by omega)
              · intro h4
                rw [h4] at hok
                repeat (first | apply Wp.seq | apply Wp.block | (apply Run.calm; exact rfl; (simp only [push_cast, seval, hgr, hgo, hgs, hgk, hgm, hsm, hB, hb0, hbj, hs0, hsj, hap, ↓hone, ↓hfl, hdf, hb6, hbt, hoi, hki, hbx, hg, List.length_append, Nat.mul_one, hol, hknl, sl, hc6', hct, hkv, hek, hgb, hkB, hgl1, hfc, hk3, hck, hmk, hst] <;> (try simp (disch := omega) only [wI, wU, wC]) <;> exact rfl); (focus ((try simp only [push_cast, seval, hgr, hgo, hgs, hgk, hgm, hsm, hB, hb0, hbj, hs0, hsj, hap, ↓hone, ↓hfl, hdf, hb6, hbt, hoi, hki, hbx, hg, List.length_append, Nat.mul_one, hol, hknl, sl, hc6', hct, hkv, hek, hgb, hkB, hgl1, hfc, hk3, hck, hmk, hst]) <;> exact sT))) | ((first | apply Run.nil | apply Wp.skip); dsimp only [sQ, tQ, bQ]) | (apply Wp.run; (dsimp only [List.map] <;> exact rfl); exact rfl) | (apply Wp.exit; dsimp only [sQ, tQ, bQ]; simp only [reduceIte]))
                (apply Run.alcAt (B + 3); (simp only [push_cast, seval, hgr, hgo, hgs, hgk, hgm, hsm, hB, hb0, hbj, hs0, hsj, hap, ↓hone, ↓hfl, hdf, hb6, hbt, hoi, hki, hbx, hg, List.length_append, Nat.mul_one, hol, hknl, sl, hc6', hct, hkv, hek, hgb, hkB, hgl1, hfc, hk3, hck, hmk, hst] <;> (try simp (disch := omega) only [wI, wU, wC]) <;> exact rfl); (focus ((try simp only [push_cast, seval, hgr, hgo, hgs, hgk, hgm, hsm, hB, hb0, hbj, hs0, hsj, hap, ↓hone, ↓hfl, hdf, hb6, hbt, hoi, hki, hbx, hg, List.length_append, Nat.mul_one, hol, hknl, sl, hc6', hct, hkv, hek, hgb, hkB, hgl1, hfc, hk3, hck, hmk, hst]) <;> exact sT)); (simp only [push_cast, seval, hgr, hgo, hgs, hgk, hgm, hsm, hB, hb0, hbj, hs0, hsj, hap, ↓hone, ↓hfl, hdf, hb6, hbt, hoi, hki, hbx, hg, List.length_append, Nat.mul_one, hol, hknl, sl, hc6', hct, hkv, hek, hgb, hkB, hgl1, hfc, hk3, hck, hmk, hst] <;> (try simp (disch := omega) only [wI, wU, wC]) <;> exact rfl); (try simp only [push_cast, seval, hgr, hgo, hgs, hgk, hgm, hsm, hB, hb0, hbj, hs0, hsj, hap, ↓hone, ↓hfl, hdf, hb6, hbt, hoi, hki, hbx, hg, List.length_append, Nat.mul_one, hol, hknl, sl, hc6', hct, hkv, hek, hgb, hkB, hgl1, hfc, hk3, hck, hmk, hst]))
                repeat (first | apply Wp.seq | apply Wp.block | (apply Run.next; (simp only [push_cast, seval, hgr, hgo, hgs, hgk, hgm, hsm, hB, hb0, hbj, hs0, hsj, hap, ↓hone, ↓hfl, hdf, hb6, hbt, hoi, hki, hbx, hg, List.length_append, Nat.mul_one, hol, hknl, sl, hc6', hct, hkv, hek, hgb, hkB, hgl1, hfc, hk3, hck, hmk, hst] <;> (try simp (disch := omega) only [wI, wU, wC]) <;> exact rfl); (focus ((try simp only [push_cast, seval, hgr, hgo, hgs, hgk, hgm, hsm, hB, hb0, hbj, hs0, hsj, hap, ↓hone, ↓hfl, hdf, hb6, hbt, hoi, hki, hbx, hg, List.length_append, Nat.mul_one, hol, hknl, sl, hc6', hct, hkv, hek, hgb, hkB, hgl1, hfc, hk3, hck, hmk, hst]) <;> exact sT))) | ((first | apply Run.nil | apply Wp.skip); dsimp only [sQ, tQ, bQ]) | (apply Wp.run; (dsimp only [List.map] <;> exact rfl); exact rfl) | (apply Wp.exit; dsimp only [sQ, tQ, bQ]; simp only [reduceIte]))
                have hcall := ih (i + 1) ((i : Int) + 1) (c.set k eg) (G ++ (⟨0, .row 6 [.agg (c.map AV.int)]⟩ :: ⟨1, .row 6 [bkA bx]⟩ :: ⟨1, .row 2 [spA bx.st eg]⟩ :: ⟨v + 1, .row 6 [.agg ((c.set k eg).map AV.int)]⟩ :: J)) mp1 hxs' (by simp at hi; omega) (by omega) hsB hk5
                rw [← Mm_app] at hcall
                apply Run.spec (he := Enters.of Try.func91 rfl rfl) (hc := hcall)
                · exact rfl
                · exact rfl
                · (simp only [push_cast, seval, hgr, hgo, hgs, hgk, hgm, hsm, hB, hb0, hbj, hs0, hsj, hap, ↓hone, ↓hfl, hdf, hb6, hbt, hoi, hki, hbx, hg, List.length_append, Nat.mul_one, hol, hknl, sl, hc6', hct, hkv, hek, hgb, hkB, hgl1, hfc, hk3, hck, hmk, hst] <;> (try simp (disch := omega) only [wI, wU, wC]) <;> exact rfl)
                · rintro _ m2 ⟨rfl, mp2, J2, g1, g2, hm2⟩
                  rw [← Mm_app, List.append_assoc] at hm2
                  simp only [List.cons_append, List.nil_append] at hm2
                  subst hm2
                  dsimp only [S.put, optG]
                  have g3 : mp2 i = L1 := by rw [g1 i (by omega)]; exact hk3
                  have hgl2 := goodL_upd hcB (.int 1) L1 hgl1
                  have hfu2 := fun d => findL_upd L1 c d (.int 1)
                  have hfc2 : findL (updL L1 (kyV c) (.int 1)) (kyV c) = some (.int 1) := by rw [hfu2 c, if_pos rfl]
                  have hus2 := fun L => upM_same mp2 i L
                  generalize hL2 : updL L1 (kyV c) (.int 1) = L2 at hgl2 hfu2 hfc2
                  repeat (first | apply Wp.seq | apply Wp.block | (apply Run.next; (simp only [push_cast, seval, hgr, hgo, hgs, hgk, hgm, hsm, hB, hb0, hbj, hs0, hsj, hap, ↓hone, ↓hfl, hdf, hb6, hbt, hoi, hki, hbx, hg, List.length_append, Nat.mul_one, hol, hknl, sl, hc6', hct, hkv, hek, hgb, hkB, hgl1, hfc, g3, hL2, hgl2, hfc2, hus2] <;> (try simp (disch := omega) only [wI, wU, wC]) <;> exact rfl); (focus ((try simp only [push_cast, seval, hgr, hgo, hgs, hgk, hgm, hsm, hB, hb0, hbj, hs0, hsj, hap, ↓hone, ↓hfl, hdf, hb6, hbt, hoi, hki, hbx, hg, List.length_append, Nat.mul_one, hol, hknl, sl, hc6', hct, hkv, hek, hgb, hkB, hgl1, hfc, g3, hL2, hgl2, hfc2, hus2]) <;> exact sT))) | ((first | apply Run.nil | apply Wp.skip); dsimp only [sQ, tQ, bQ]) | (apply Wp.run; (dsimp only [List.map] <;> exact rfl); exact rfl) | (apply Wp.exit; dsimp only [sQ, tQ, bQ]; simp only [reduceIte]))
                  (apply Wp.cond; (simp only [push_cast, seval, hgr, hgo, hgs, hgk, hgm, hsm, hB, hb0, hbj, hs0, hsj, hap, ↓hone, ↓hfl, hdf, hb6, hbt, hoi, hki, hbx, hg, List.length_append, Nat.mul_one, hol, hknl, sl, hc6', hct, hkv, hek, hgb, hkB, hgl1, hfc, g3, hL2, hgl2, hfc2, hus2] <;> (try simp (disch := omega) only [wI, wU, wC]) <;> exact rfl))
                  · intro h5
                    repeat (first | apply Wp.seq | apply Wp.block | (apply Run.next; (simp only [push_cast, seval, hgr, hgo, hgs, hgk, hgm, hsm, hB, hb0, hbj, hs0, hsj, hap, ↓hone, ↓hfl, hdf, hb6, hbt, hoi, hki, hbx, hg, List.length_append, Nat.mul_one, hol, hknl, sl, hc6', hct, hkv, hek, hgb, hkB, hgl1, hfc, g3, hL2, hgl2, hfc2, hus2] <;> (try simp (disch := omega) only [wI, wU, wC]) <;> exact rfl); (focus ((try simp only [push_cast, seval, hgr, hgo, hgs, hgk, hgm, hsm, hB, hb0, hbj, hs0, hsj, hap, ↓hone, ↓hfl, hdf, hb6, hbt, hoi, hki, hbx, hg, List.length_append, Nat.mul_one, hol, hknl, sl, hc6', hct, hkv, hek, hgb, hkB, hgl1, hfc, g3, hL2, hgl2, hfc2, hus2]) <;> exact sT))) | ((first | apply Run.nil | apply Wp.skip); dsimp only [sQ, tQ, bQ]) | (apply Wp.run; (dsimp only [List.map] <;> exact rfl); exact rfl) | (apply Wp.exit; dsimp only [sQ, tQ, bQ]; simp only [reduceIte]))
                    (apply Wp.runE 8 8 mixed; (dsimp only [List.map] <;> exact rfl); exact rfl; kernel_rfl; ((repeat (apply Abe.next; exact rfl; (simp only [push_cast, seval, hgr, hgo, hgs, hgk, hgm, hsm, hB, hb0, hbj, hs0, hsj, hap, ↓hone, ↓hfl, hdf, hb6, hbt, hoi, hki, hbx, hg, List.length_append, Nat.mul_one, hol, hknl, sl, hc6', hct, hkv, hek, hgb, hkB, hgl1, hfc, g3, hL2, hgl2, hfc2, hus2] <;> (try simp (disch := omega) only [wI, wU, wC]) <;> exact rfl); (focus ((try simp only [push_cast, seval, hgr, hgo, hgs, hgk, hgm, hsm, hB, hb0, hbj, hs0, hsj, hap, ↓hone, ↓hfl, hdf, hb6, hbt, hoi, hki, hbx, hg, List.length_append, Nat.mul_one, hol, hknl, sl, hc6', hct, hkv, hek, hgb, hkB, hgl1, hfc, g3, hL2, hgl2, hfc2, hus2]) <;> exact sT)))); (apply Abe.eff; exact rfl; (simp only [push_cast, seval, hgr, hgo, hgs, hgk, hgm, hsm, hB, hb0, hbj, hs0, hsj, hap, ↓hone, ↓hfl, hdf, hb6, hbt, hoi, hki, hbx, hg, List.length_append, Nat.mul_one, hol, hknl, sl, hc6', hct, hkv, hek, hgb, hkB, hgl1, hfc, g3, hL2, hgl2, hfc2, hus2] <;> (try simp (disch := omega) only [wI, wU, wC]) <;> exact rfl); (focus ((try simp only [push_cast, seval, hgr, hgo, hgs, hgk, hgm, hsm, hB, hb0, hbj, hs0, hsj, hap, ↓hone, ↓hfl, hdf, hb6, hbt, hoi, hki, hbx, hg, List.length_append, Nat.mul_one, hol, hknl, sl, hc6', hct, hkv, hek, hgb, hkB, hgl1, hfc, g3, hL2, hgl2, hfc2, hus2]) <;> exact sT)); (try dsimp only [putA])); exact Abe.nil))
                    repeat (first | apply Wp.seq | apply Wp.block | (apply Run.next; (simp only [push_cast, seval, hgr, hgo, hgs, hgk, hgm, hsm, hB, hb0, hbj, hs0, hsj, hap, ↓hone, ↓hfl, hdf, hb6, hbt, hoi, hki, hbx, hg, List.length_append, Nat.mul_one, hol, hknl, sl, hc6', hct, hkv, hek, hgb, hkB, hgl1, hfc, g3, hL2, hgl2, hfc2, hus2] <;> (try simp (disch := omega) only [wI, wU, wC]) <;> exact rfl); (focus ((try simp only [push_cast, seval, hgr, hgo, hgs, hgk, hgm, hsm, hB, hb0, hbj, hs0, hsj, hap, ↓hone, ↓hfl, hdf, hb6, hbt, hoi, hki, hbx, hg, List.length_append, Nat.mul_one, hol, hknl, sl, hc6', hct, hkv, hek, hgb, hkB, hgl1, hfc, g3, hL2, hgl2, hfc2, hus2]) <;> exact sT))) | ((first | apply Run.nil | apply Wp.skip); dsimp only [sQ, tQ, bQ]) | (apply Wp.run; (dsimp only [List.map] <;> exact rfl); exact rfl) | (apply Wp.exit; dsimp only [sQ, tQ, bQ]; simp only [reduceIte]) | (apply Run.gtrue; (simp only [push_cast, seval, hgr, hgo, hgs, hgk, hgm, hsm, hB, hb0, hbj, hs0, hsj, hap, ↓hone, ↓hfl, hdf, hb6, hbt, hoi, hki, hbx, hg, List.length_append, Nat.mul_one, hol, hknl, sl, hc6', hct, hkv, hek, hgb, hkB, hgl1, hfc, g3, hL2, hgl2, hfc2, hus2] <;> (try simp (disch := omega) only [wI, wU, wC]) <;> exact rfl); (simp only [push_cast, seval, hgr, hgo, hgs, hgk, hgm, hsm, hB, hb0, hbj, hs0, hsj, hap, ↓hone, ↓hfl, hdf, hb6, hbt, hoi, hki, hbx, hg, List.length_append, Nat.mul_one, hol, hknl, sl, hc6', hct, hkv, hek, hgb, hkB, hgl1, hfc, g3, hL2, hgl2, hfc2, hus2] <;> (try simp (disch := omega) only [wI, wU, wC]) <;> exact rfl)) | (apply Run.gfalse (.bool false); (simp only [push_cast, seval, hgr, hgo, hgs, hgk, hgm, hsm, hB, hb0, hbj, hs0, hsj, hap, ↓hone, ↓hfl, hdf, hb6, hbt, hoi, hki, hbx, hg, List.length_append, Nat.mul_one, hol, hknl, sl, hc6', hct, hkv, hek, hgb, hkB, hgl1, hfc, g3, hL2, hgl2, hfc2, hus2] <;> (try simp (disch := omega) only [wI, wU, wC]) <;> exact rfl); dsimp only [S.put, optG]) | (apply Wp.condT; (simp only [push_cast, seval, hgr, hgo, hgs, hgk, hgm, hsm, hB, hb0, hbj, hs0, hsj, hap, ↓hone, ↓hfl, hdf, hb6, hbt, hoi, hki, hbx, hg, List.length_append, Nat.mul_one, hol, hknl, sl, hc6', hct, hkv, hek, hgb, hkB, hgl1, hfc, g3, hL2, hgl2, hfc2, hus2] <;> (try simp (disch := omega) only [wI, wU, wC]) <;> exact rfl)) | (apply Wp.condF; (simp only [push_cast, seval, hgr, hgo, hgs, hgk, hgm, hsm, hB, hb0, hbj, hs0, hsj, hap, ↓hone, ↓hfl, hdf, hb6, hbt, hoi, hki, hbx, hg, List.length_append, Nat.mul_one, hol, hknl, sl, hc6', hct, hkv, hek, hgb, hkB, hgl1, hfc, g3, hL2, hgl2, hfc2, hus2] <;> (try simp (disch := omega) only [wI, wU, wC]) <;> exact rfl)))
                    (apply Wp.runD 11 mixed; (dsimp only [List.map] <;> exact rfl); exact rfl; kernel_rfl; (dsimp only [List.take] <;> exact rfl); (dsimp only [List.drop] <;> exact rfl); (((repeat (apply Abn.next; (simp only [push_cast, seval, hgr, hgo, hgs, hgk, hgm, hsm, hB, hb0, hbj, hs0, hsj, hap, ↓hone, ↓hfl, hdf, hb6, hbt, hoi, hki, hbx, hg, List.length_append, Nat.mul_one, hol, hknl, sl, hc6', hct, hkv, hek, hgb, hkB, hgl1, hfc, g3, hL2, hgl2, hfc2, hus2] <;> (try simp (disch := omega) only [wI, wU, wC]) <;> exact rfl); (focus ((try simp only [push_cast, seval, hgr, hgo, hgs, hgk, hgm, hsm, hB, hb0, hbj, hs0, hsj, hap, ↓hone, ↓hfl, hdf, hb6, hbt, hoi, hki, hbx, hg, List.length_append, Nat.mul_one, hol, hknl, sl, hc6', hct, hkv, hek, hgb, hkB, hgl1, hfc, g3, hL2, hgl2, hfc2, hus2]) <;> exact sT))))); exact Abn.nil))
                    repeat (first | apply Wp.seq | apply Wp.block | (apply Run.next; (simp only [push_cast, seval, hgr, hgo, hgs, hgk, hgm, hsm, hB, hb0, hbj, hs0, hsj, hap, ↓hone, ↓hfl, hdf, hb6, hbt, hoi, hki, hbx, hg, List.length_append, Nat.mul_one, hol, hknl, sl, hc6', hct, hkv, hek, hgb, hkB, hgl1, hfc, g3, hL2, hgl2, hfc2, hus2] <;> (try simp (disch := omega) only [wI, wU, wC]) <;> exact rfl); (focus ((try simp only [push_cast, seval, hgr, hgo, hgs, hgk, hgm, hsm, hB, hb0, hbj, hs0, hsj, hap, ↓hone, ↓hfl, hdf, hb6, hbt, hoi, hki, hbx, hg, List.length_append, Nat.mul_one, hol, hknl, sl, hc6', hct, hkv, hek, hgb, hkB, hgl1, hfc, g3, hL2, hgl2, hfc2, hus2]) <;> exact sT))) | ((first | apply Run.nil | apply Wp.skip); dsimp only [sQ, tQ, bQ]) | (apply Wp.run; (dsimp only [List.map] <;> exact rfl); exact rfl) | (apply Wp.exit; dsimp only [sQ, tQ, bQ]; simp only [reduceIte]) | (apply Run.gtrue; (simp only [push_cast, seval, hgr, hgo, hgs, hgk, hgm, hsm, hB, hb0, hbj, hs0, hsj, hap, ↓hone, ↓hfl, hdf, hb6, hbt, hoi, hki, hbx, hg, List.length_append, Nat.mul_one, hol, hknl, sl, hc6', hct, hkv, hek, hgb, hkB, hgl1, hfc, g3, hL2, hgl2, hfc2, hus2] <;> (try simp (disch := omega) only [wI, wU, wC]) <;> exact rfl); (simp only [push_cast, seval, hgr, hgo, hgs, hgk, hgm, hsm, hB, hb0, hbj, hs0, hsj, hap, ↓hone, ↓hfl, hdf, hb6, hbt, hoi, hki, hbx, hg, List.length_append, Nat.mul_one, hol, hknl, sl, hc6', hct, hkv, hek, hgb, hkB, hgl1, hfc, g3, hL2, hgl2, hfc2, hus2] <;> (try simp (disch := omega) only [wI, wU, wC]) <;> exact rfl)) | (apply Run.gfalse (.bool false); (simp only [push_cast, seval, hgr, hgo, hgs, hgk, hgm, hsm, hB, hb0, hbj, hs0, hsj, hap, ↓hone, ↓hfl, hdf, hb6, hbt, hoi, hki, hbx, hg, List.length_append, Nat.mul_one, hol, hknl, sl, hc6', hct, hkv, hek, hgb, hkB, hgl1, hfc, g3, hL2, hgl2, hfc2, hus2] <;> (try simp (disch := omega) only [wI, wU, wC]) <;> exact rfl); dsimp only [S.put, optG]) | (apply Wp.condT; (simp only [push_cast, seval, hgr, hgo, hgs, hgk, hgm, hsm, hB, hb0, hbj, hs0, hsj, hap, ↓hone, ↓hfl, hdf, hb6, hbt, hoi, hki, hbx, hg, List.length_append, Nat.mul_one, hol, hknl, sl, hc6', hct, hkv, hek, hgb, hkB, hgl1, hfc, g3, hL2, hgl2, hfc2, hus2] <;> (try simp (disch := omega) only [wI, wU, wC]) <;> exact rfl)) | (apply Wp.condF; (simp only [push_cast, seval, hgr, hgo, hgs, hgk, hgm, hsm, hB, hb0, hbj, hs0, hsj, hap, ↓hone, ↓hfl, hdf, hb6, hbt, hoi, hki, hbx, hg, List.length_append, Nat.mul_one, hol, hknl, sl, hc6', hct, hkv, hek, hgb, hkB, hgl1, hfc, g3, hL2, hgl2, hfc2, hus2] <;> (try simp (disch := omega) only [wI, wU, wC]) <;> exact rfl)))
                    (apply Wp.ret; (try dsimp only [sQ, tQ, bQ]); apply leaveA; exact rfl; (simp only [push_cast, seval, hgr, hgo, hgs, hgk, hgm, hsm, hB, hb0, hbj, hs0, hsj, hap, ↓hone, ↓hfl, hdf, hb6, hbt, hoi, hki, hbx, hg, List.length_append, Nat.mul_one, hol, hknl, sl, hc6', hct, hkv, hek, hgb, hkB, hgl1, hfc, g3, hL2, hgl2, hfc2, hus2] <;> (try simp (disch := omega) only [wI, wU, wC]) <;> exact rfl); (focus (first | (simp only [push_cast, seval, hgr, hgo, hgs, hgk, hgm, hsm, hB, hb0, hbj, hs0, hsj, hap, ↓hone, ↓hfl, hdf, hb6, hbt, hoi, hki, hbx, hg, List.length_append, Nat.mul_one, hol, hknl, sl, hc6', hct, hkv, hek, hgb, hkB, hgl1, hfc, g3, hL2, hgl2, hfc2, hus2]; done) | trivial | (simp only [push_cast, seval, hgr, hgo, hgs, hgk, hgm, hsm, hB, hb0, hbj, hs0, hsj, hap, ↓hone, ↓hfl, hdf, hb6, hbt, hoi, hki, hbx, hg, List.length_append, Nat.mul_one, hol, hknl, sl, hc6', hct, hkv, hek, hgb, hkB, hgl1, hfc, g3, hL2, hgl2, hfc2, hus2]; trivial) | (simp; done))); (try simp only [push_cast, seval, hgr, hgo, hgs, hgk, hgm, hsm, hB, hb0, hbj, hs0, hsj, hap, ↓hone, ↓hfl, hdf, hb6, hbt, hoi, hki, hbx, hg, List.length_append, Nat.mul_one, hol, hknl, sl, hc6', hct, hkv, hek, hgb, hkB, hgl1, hfc, g3, hL2, hgl2, hfc2, hus2]))
                    have hT : rF cs ms ls stf (x :: xs) b = true := by
                      rw [hrF, List.any_eq_true]
                      exact ⟨k, List.mem_range.2 hcm, by rw [hok, h5]; rfl⟩
                    refine ⟨by rw [hT], upM mp2 i L2, _, fun j hj => ?_, fun j hj hj2 => ?_, rfl⟩
                    · rw [upM_ne mp2 L2 (by omega), g1 j (by omega)]; exact hk4 j hj
                    · by_cases hji : j = i
                      · subst hji
                        rw [hus2 L2, hxs]
                        refine ⟨hgl2, fun d w hw => ?_⟩
                        rw [hfu2 d, hfu d] at hw
                        by_cases hcd : c = d
                        · subst hcd
                          rw [if_pos rfl] at hw
                          exact .inl ⟨(Option.some.inj hw).symm, by rw [hrc]; exact hT⟩
                        · rw [if_neg hcd, if_neg hcd] at hw
                          exact hmo.val d w hw
                      · rw [upM_ne mp2 L2 hji]; exact g2 j (by omega) hj2
                  · intro h5
                    repeat (first | apply Wp.seq | apply Wp.block | (apply Run.next; (simp only [push_cast, seval, hgr, hgo, hgs, hgk, hgm, hsm, hB, hb0, hbj, hs0, hsj, hap, ↓hone, ↓hfl, hdf, hb6, hbt, hoi, hki, hbx, hg, List.length_append, Nat.mul_one, hol, hknl, sl, hc6', hct, hkv, hek, hgb, hkB, hgl1, hfc, g3, hL2, hgl2, hfc2, hus2] <;> (try simp (disch := omega) only [wI, wU, wC]) <;> exact rfl); (focus ((try simp only [push_cast, seval, hgr, hgo, hgs, hgk, hgm, hsm, hB, hb0, hbj, hs0, hsj, hap, ↓hone, ↓hfl, hdf, hb6, hbt, hoi, hki, hbx, hg, List.length_append, Nat.mul_one, hol, hknl, sl, hc6', hct, hkv, hek, hgb, hkB, hgl1, hfc, g3, hL2, hgl2, hfc2, hus2]) <;> exact sT))) | ((first | apply Run.nil | apply Wp.skip); dsimp only [sQ, tQ, bQ]) | (apply Wp.run; (dsimp only [List.map] <;> exact rfl); exact rfl) | (apply Wp.exit; dsimp only [sQ, tQ, bQ]; simp only [reduceIte]))
                    refine ⟨(k + 1, mp2, (v + 1, .row 6 [.agg ((c.set k eg).map AV.int)]), J ++ J2), ?_, ⟨by simp only; omega, fun m hm => ?_, g3, fun j hj => ?_, g2⟩, by simp only; omega⟩
                    · (refine Le.of ?_ ?_ rfl rfl <;> (try simp only [push_cast, seval, hgr, hgo, hgs, hgk, hgm, hsm, hB, hb0, hbj, hs0, hsj, hap, ↓hone, ↓hfl, hdf, hb6, hbt, hoi, hki, hbx, hg, List.length_append, Nat.mul_one, hol, hknl, sl, hc6', hct, hkv, hek, hgb, hkB, hgl1, hfc, g3, hL2, hgl2, hfc2, hus2]) <;> (try (with_reducible rfl)))
                    · simp only at hm
                      have h6 : (okS cs ms ls stf x m c && rF cs ms ls stf xs (c.set m eg)) = false := by
                        by_cases hmk' : m = k
                        · subst hmk'; rw [h5, Bool.and_false]
                        · exact hk2 m (by omega)
                      first | exact h6 | exact Bool.and_eq_false_iff.1 h6
                    · simp only
                      rw [g1 j (by omega)]; exact hk4 j hj
            · intro hcm
              simp only [decide_eq_false_iff_not, Int.ofNat_lt] at hcm
              obtain rfl : k = ms.length := by omega
              repeat (first | apply Wp.seq | apply Wp.block | (apply Run.next; (simp only [push_cast, seval, hgr, hgo, hgs, hgk, hgm, hsm, hB, hb0, hbj, hs0, hsj, hap, ↓hone, ↓hfl, hdf, hb6, hbt, hoi, hki, hbx, hg, List.length_append, Nat.mul_one, hol, hknl, sl, hc6', hct, hkv, hek, hgb, hkB, hgl1, hfc, hk3] <;> (try simp (disch := omega) only [wI, wU, wC]) <;> exact rfl); (focus ((try simp only [push_cast, seval, hgr, hgo, hgs, hgk, hgm, hsm, hB, hb0, hbj, hs0, hsj, hap, ↓hone, ↓hfl, hdf, hb6, hbt, hoi, hki, hbx, hg, List.length_append, Nat.mul_one, hol, hknl, sl, hc6', hct, hkv, hek, hgb, hkB, hgl1, hfc, hk3]) <;> exact sT))) | ((first | apply Run.nil | apply Wp.skip); dsimp only [sQ, tQ, bQ]) | (apply Wp.run; (dsimp only [List.map] <;> exact rfl); exact rfl) | (apply Wp.exit; dsimp only [sQ, tQ, bQ]; simp only [reduceIte]) | (apply Run.gtrue; (simp only [push_cast, seval, hgr, hgo, hgs, hgk, hgm, hsm, hB, hb0, hbj, hs0, hsj, hap, ↓hone, ↓hfl, hdf, hb6, hbt, hoi, hki, hbx, hg, List.length_append, Nat.mul_one, hol, hknl, sl, hc6', hct, hkv, hek, hgb, hkB, hgl1, hfc, hk3] <;> (try simp (disch := omega) only [wI, wU, wC]) <;> exact rfl); (simp only [push_cast, seval, hgr, hgo, hgs, hgk, hgm, hsm, hB, hb0, hbj, hs0, hsj, hap, ↓hone, ↓hfl, hdf, hb6, hbt, hoi, hki, hbx, hg, List.length_append, Nat.mul_one, hol, hknl, sl, hc6', hct, hkv, hek, hgb, hkB, hgl1, hfc, hk3] <;> (try simp (disch := omega) only [wI, wU, wC]) <;> exact rfl)) | (apply Run.gfalse (.bool false); (simp only [push_cast, seval, hgr, hgo, hgs, hgk, hgm, hsm, hB, hb0, hbj, hs0, hsj, hap, ↓hone, ↓hfl, hdf, hb6, hbt, hoi, hki, hbx, hg, List.length_append, Nat.mul_one, hol, hknl, sl, hc6', hct, hkv, hek, hgb, hkB, hgl1, hfc, hk3] <;> (try simp (disch := omega) only [wI, wU, wC]) <;> exact rfl); dsimp only [S.put, optG]) | (apply Wp.condT; (simp only [push_cast, seval, hgr, hgo, hgs, hgk, hgm, hsm, hB, hb0, hbj, hs0, hsj, hap, ↓hone, ↓hfl, hdf, hb6, hbt, hoi, hki, hbx, hg, List.length_append, Nat.mul_one, hol, hknl, sl, hc6', hct, hkv, hek, hgb, hkB, hgl1, hfc, hk3] <;> (try simp (disch := omega) only [wI, wU, wC]) <;> exact rfl)) | (apply Wp.condF; (simp only [push_cast, seval, hgr, hgo, hgs, hgk, hgm, hsm, hB, hb0, hbj, hs0, hsj, hap, ↓hone, ↓hfl, hdf, hb6, hbt, hoi, hki, hbx, hg, List.length_append, Nat.mul_one, hol, hknl, sl, hc6', hct, hkv, hek, hgb, hkB, hgl1, hfc, hk3] <;> (try simp (disch := omega) only [wI, wU, wC]) <;> exact rfl)))
              (apply Wp.runD 11 mixed; (dsimp only [List.map] <;> exact rfl); exact rfl; kernel_rfl; (dsimp only [List.take] <;> exact rfl); (dsimp only [List.drop] <;> exact rfl); (((repeat (apply Abn.next; (simp only [push_cast, seval, hgr, hgo, hgs, hgk, hgm, hsm, hB, hb0, hbj, hs0, hsj, hap, ↓hone, ↓hfl, hdf, hb6, hbt, hoi, hki, hbx, hg, List.length_append, Nat.mul_one, hol, hknl, sl, hc6', hct, hkv, hek, hgb, hkB, hgl1, hfc, hk3] <;> (try simp (disch := omega) only [wI, wU, wC]) <;> exact rfl); (focus ((try simp only [push_cast, seval, hgr, hgo, hgs, hgk, hgm, hsm, hB, hb0, hbj, hs0, hsj, hap, ↓hone, ↓hfl, hdf, hb6, hbt, hoi, hki, hbx, hg, List.length_append, Nat.mul_one, hol, hknl, sl, hc6', hct, hkv, hek, hgb, hkB, hgl1, hfc, hk3]) <;> exact sT))))); exact Abn.nil))
              repeat (first | apply Wp.seq | apply Wp.block | (apply Run.next; (simp only [push_cast, seval, hgr, hgo, hgs, hgk, hgm, hsm, hB, hb0, hbj, hs0, hsj, hap, ↓hone, ↓hfl, hdf, hb6, hbt, hoi, hki, hbx, hg, List.length_append, Nat.mul_one, hol, hknl, sl, hc6', hct, hkv, hek, hgb, hkB, hgl1, hfc, hk3] <;> (try simp (disch := omega) only [wI, wU, wC]) <;> exact rfl); (focus ((try simp only [push_cast, seval, hgr, hgo, hgs, hgk, hgm, hsm, hB, hb0, hbj, hs0, hsj, hap, ↓hone, ↓hfl, hdf, hb6, hbt, hoi, hki, hbx, hg, List.length_append, Nat.mul_one, hol, hknl, sl, hc6', hct, hkv, hek, hgb, hkB, hgl1, hfc, hk3]) <;> exact sT))) | ((first | apply Run.nil | apply Wp.skip); dsimp only [sQ, tQ, bQ]) | (apply Wp.run; (dsimp only [List.map] <;> exact rfl); exact rfl) | (apply Wp.exit; dsimp only [sQ, tQ, bQ]; simp only [reduceIte]) | (apply Run.gtrue; (simp only [push_cast, seval, hgr, hgo, hgs, hgk, hgm, hsm, hB, hb0, hbj, hs0, hsj, hap, ↓hone, ↓hfl, hdf, hb6, hbt, hoi, hki, hbx, hg, List.length_append, Nat.mul_one, hol, hknl, sl, hc6', hct, hkv, hek, hgb, hkB, hgl1, hfc, hk3] <;> (try simp (disch := omega) only [wI, wU, wC]) <;> exact rfl); (simp only [push_cast, seval, hgr, hgo, hgs, hgk, hgm, hsm, hB, hb0, hbj, hs0, hsj, hap, ↓hone, ↓hfl, hdf, hb6, hbt, hoi, hki, hbx, hg, List.length_append, Nat.mul_one, hol, hknl, sl, hc6', hct, hkv, hek, hgb, hkB, hgl1, hfc, hk3] <;> (try simp (disch := omega) only [wI, wU, wC]) <;> exact rfl)) | (apply Run.gfalse (.bool false); (simp only [push_cast, seval, hgr, hgo, hgs, hgk, hgm, hsm, hB, hb0, hbj, hs0, hsj, hap, ↓hone, ↓hfl, hdf, hb6, hbt, hoi, hki, hbx, hg, List.length_append, Nat.mul_one, hol, hknl, sl, hc6', hct, hkv, hek, hgb, hkB, hgl1, hfc, hk3] <;> (try simp (disch := omega) only [wI, wU, wC]) <;> exact rfl); dsimp only [S.put, optG]) | (apply Wp.condT; (simp only [push_cast, seval, hgr, hgo, hgs, hgk, hgm, hsm, hB, hb0, hbj, hs0, hsj, hap, ↓hone, ↓hfl, hdf, hb6, hbt, hoi, hki, hbx, hg, List.length_append, Nat.mul_one, hol, hknl, sl, hc6', hct, hkv, hek, hgb, hkB, hgl1, hfc, hk3] <;> (try simp (disch := omega) only [wI, wU, wC]) <;> exact rfl)) | (apply Wp.condF; (simp only [push_cast, seval, hgr, hgo, hgs, hgk, hgm, hsm, hB, hb0, hbj, hs0, hsj, hap, ↓hone, ↓hfl, hdf, hb6, hbt, hoi, hki, hbx, hg, List.length_append, Nat.mul_one, hol, hknl, sl, hc6', hct, hkv, hek, hgb, hkB, hgl1, hfc, hk3] <;> (try simp (disch := omega) only [wI, wU, wC]) <;> exact rfl)))
              (apply Wp.ret; (try dsimp only [sQ, tQ, bQ]); apply leaveA; exact rfl; (simp only [push_cast, seval, hgr, hgo, hgs, hgk, hgm, hsm, hB, hb0, hbj, hs0, hsj, hap, ↓hone, ↓hfl, hdf, hb6, hbt, hoi, hki, hbx, hg, List.length_append, Nat.mul_one, hol, hknl, sl, hc6', hct, hkv, hek, hgb, hkB, hgl1, hfc, hk3] <;> (try simp (disch := omega) only [wI, wU, wC]) <;> exact rfl); (focus (first | (simp only [push_cast, seval, hgr, hgo, hgs, hgk, hgm, hsm, hB, hb0, hbj, hs0, hsj, hap, ↓hone, ↓hfl, hdf, hb6, hbt, hoi, hki, hbx, hg, List.length_append, Nat.mul_one, hol, hknl, sl, hc6', hct, hkv, hek, hgb, hkB, hgl1, hfc, hk3]; done) | trivial | (simp only [push_cast, seval, hgr, hgo, hgs, hgk, hgm, hsm, hB, hb0, hbj, hs0, hsj, hap, ↓hone, ↓hfl, hdf, hb6, hbt, hoi, hki, hbx, hg, List.length_append, Nat.mul_one, hol, hknl, sl, hc6', hct, hkv, hek, hgb, hkB, hgl1, hfc, hk3]; trivial) | (simp; done))); (try simp only [push_cast, seval, hgr, hgo, hgs, hgk, hgm, hsm, hB, hb0, hbj, hs0, hsj, hap, ↓hone, ↓hfl, hdf, hb6, hbt, hoi, hki, hbx, hg, List.length_append, Nat.mul_one, hol, hknl, sl, hc6', hct, hkv, hek, hgb, hkB, hgl1, hfc, hk3]))
              have hT : rF cs ms ls stf (x :: xs) b = false := by
                rw [hrF, List.any_eq_false]
                intro m hm
                rw [hk2 m (List.mem_range.1 hm)]; simp
              refine ⟨by rw [hT], mp1, _, hk4, fun j hj hj2 => ?_, rfl⟩
              by_cases hji : j = i
              · subst hji
                rw [hk3, hxs]
                refine ⟨hgl1, fun d w hw => ?_⟩
                rw [hfu d] at hw
                by_cases hcd : c = d
                · subst hcd
                  rw [if_pos rfl] at hw
                  exact .inr ⟨(Option.some.inj hw).symm, by rw [hrc]; exact hT⟩
                · rw [if_neg hcd] at hw
                  exact hmo.val d w hw
              · exact hk5 j (by omega) hj2
end Go.Proofs.Try
set_option maxHeartbeats 8000000
namespace Go.Proofs.Try
open Go.Vg

/-! the plain law of a rota: the search says whether there is a right staff -/
structure VA (cs : List Ch) (ms : List Ma) (ls : List Bk) (a : Nat → Nat) : Prop where
  ok : ∀ x, x < ls.length → a x < ms.length ∧ ldB cs ms (a x) (ls.getD x bk0) = true
  ap : ∀ i j, i < j → j < ls.length → a i = a j → togB cs (ls.getD i bk0) (ls.getD j bk0) = false
def Cmp (ls : List Bk) (stf : List Int) (a : Nat → Nat) : Prop := ∀ x, x < ls.length → 0 ≤ stf.getD x 0 → stf.getD x 0 = (a x : Int)
def chOk (cs : List Ch) (ms : List Ma) (ls : List Bk) (stf : List Int) (a : Nat → Nat) : List Nat → List Int → Prop
  | [], _ => True
  | x :: xs, b => a x < ms.length ∧ okS cs ms ls stf x (a x) (clr (ls.getD x bk0).st b) = true ∧ chOk cs ms ls stf a xs ((clr (ls.getD x bk0).st b).set (a x) (endG cs (ls.getD x bk0)))
theorem chOk_congr {cs : List Ch} {ms : List Ma} {ls : List Bk} {stf : List Int} {a a' : Nat → Nat} : ∀ {xs : List Nat} {b : List Int}, (∀ x ∈ xs, a x = a' x) → chOk cs ms ls stf a xs b → chOk cs ms ls stf a' xs b
  | [], _, _, _ => trivial
  | x :: xs, b, h, ⟨h1, h2, h3⟩ => by
    have e := h x (by simp)
    rw [e] at h1 h2 h3
    exact ⟨h1, h2, chOk_congr (fun y hy => h y (by simp [hy])) h3⟩
theorem rF_iff {cs : List Ch} {ms : List Ma} {ls : List Bk} {stf : List Int} : ∀ {xs : List Nat} {b : List Int}, xs.Nodup → (rF cs ms ls stf xs b = true ↔ ∃ a, chOk cs ms ls stf a xs b)
  | [], b, _ => by simp [rF, chOk]
  | x :: xs, b, hn => by
    rw [List.nodup_cons] at hn
    simp only [rF, List.any_eq_true, List.mem_range, Bool.and_eq_true]
    constructor
    · rintro ⟨m, hm, h1, h2⟩
      obtain ⟨a, ha⟩ := (rF_iff hn.2).1 h2
      refine ⟨fun y => if y = x then m else a y, ?_⟩
      simp only [chOk, if_true]
      refine ⟨hm, h1, chOk_congr (fun y hy => ?_) ha⟩
      have : y ≠ x := fun e => hn.1 (e ▸ hy)
      simp [this]
    · rintro ⟨a, h1, h2, h3⟩
      exact ⟨a x, h1, h2, (rF_iff hn.2).2 ⟨a, h3⟩⟩
/-- what the ends say of those who have led -/
def BInv (cs : List Ch) (ls : List Bk) (a : Nat → Nat) (P : List Nat) (s : Int) (b : List Int) : Prop :=
  b.length = 6 ∧ ∀ m, m < 6 → ∀ t, s ≤ t → (t < b.getD m 0 ↔ ∃ y ∈ P, a y = m ∧ t < endG cs (ls.getD y bk0))
def basB (cs : List Ch) (ms : List Ma) (ls : List Bk) (stf : List Int) (a : Nat → Nat) (x : Nat) : Prop :=
  a x < ms.length ∧ (0 ≤ stf.getD x 0 → stf.getD x 0 = (a x : Int)) ∧ ldB cs ms (a x) (ls.getD x bk0) = true
theorem getD_set_self (l : List Int) (i : Nat) (z : Int) (h : i < l.length) : (l.set i z).getD i 0 = z := by simp [List.getD_eq_getElem?_getD, h]
theorem getD_clr (s : Int) (b : List Int) (m : Nat) (h : m < b.length) : (clr s b).getD m 0 = c1 s (b.getD m 0) := by
  simp [clr, List.getD_eq_getElem?_getD, h]
theorem okS_iff {cs : List Ch} {ms : List Ma} {ls : List Bk} {stf : List Int} {x m : Nat} {c : List Int} : okS cs ms ls stf x m c = true ↔ (0 ≤ stf.getD x 0 → stf.getD x 0 = (m : Int)) ∧ ¬ 0 < c.getD m 0 ∧ ldB cs ms m (ls.getD x bk0) = true := by
  unfold okS
  generalize ldB cs ms m (ls.getD x bk0) = l
  by_cases h1 : 0 ≤ stf.getD x 0 <;> by_cases h2 : stf.getD x 0 = (m : Int) <;> by_cases h3 : 0 < c.getD m 0 <;> cases l <;> simp [h1, h2, h3]
  all_goals first | omega | (rw [h2] at h1; omega)
theorem chOk_iff {cs : List Ch} {ms : List Ma} {ls : List Bk} {stf : List Int} {a : Nat → Nat} (hm6 : ms.length ≤ 6) (hen : ∀ x, x < ls.length → 0 ≤ (ls.getD x bk0).st ∧ (ls.getD x bk0).st < endG cs (ls.getD x bk0)) : ∀ {xs P : List Nat} {s : Int} {b : List Int}, 0 ≤ s → (∀ x ∈ xs, x < ls.length ∧ s ≤ (ls.getD x bk0).st) → xs.Pairwise (fun y x => (ls.getD y bk0).st ≤ (ls.getD x bk0).st) → BInv cs ls a P s b →
    (chOk cs ms ls stf a xs b ↔ (∀ x ∈ xs, basB cs ms ls stf a x) ∧ (∀ x ∈ xs, ∀ y ∈ P, a y = a x → endG cs (ls.getD y bk0) ≤ (ls.getD x bk0).st) ∧ xs.Pairwise (fun y x => a y = a x → endG cs (ls.getD y bk0) ≤ (ls.getD x bk0).st))
  | [], P, s, b, _, _, _, _ => by simp [chOk]
  | x :: xs, P, s, b, hs, hx, hp, ⟨hb6, hb⟩ => by
    obtain ⟨hxl, hxs⟩ := hx x (by simp)
    obtain ⟨hst0, hste⟩ := hen x hxl
    rw [List.pairwise_cons] at hp
    simp only [chOk, okS_iff]
    -- the busy one
    have key : a x < ms.length → (¬ 0 < (clr (ls.getD x bk0).st b).getD (a x) 0 ↔ ∀ y ∈ P, a y = a x → endG cs (ls.getD y bk0) ≤ (ls.getD x bk0).st) := by
      intro hm
      rw [getD_clr _ _ _ (by omega)]
      have h1 := hb (a x) (by omega) (ls.getD x bk0).st hxs
      have h2 : (0 < c1 (ls.getD x bk0).st (b.getD (a x) 0)) ↔ (ls.getD x bk0).st < b.getD (a x) 0 := by unfold c1; split <;> omega
      rw [h2, h1]
      constructor
      · intro h y hy hay
        rcases Int.lt_or_le (ls.getD x bk0).st (endG cs (ls.getD y bk0)) with h3 | h3
        · exact (h ⟨y, hy, hay, h3⟩).elim
        · exact h3
      · rintro h ⟨y, hy, hay, h3⟩
        have := h y hy hay
        omega
    have next : a x < ms.length → (∀ y ∈ P, a y = a x → endG cs (ls.getD y bk0) ≤ (ls.getD x bk0).st) → BInv cs ls a (P ++ [x]) (ls.getD x bk0).st ((clr (ls.getD x bk0).st b).set (a x) (endG cs (ls.getD x bk0))) := by
      intro hm hfree
      refine ⟨by simp [clr, hb6], fun m hm6' t ht => ?_⟩
      have hlen : (clr (ls.getD x bk0).st b).length = 6 := by simp [clr, hb6]
      by_cases hma : m = a x
      · subst hma
        have e : ((clr (ls.getD x bk0).st b).set (a x) (endG cs (ls.getD x bk0))).getD (a x) 0 = endG cs (ls.getD x bk0) := by
          exact getD_set_self _ _ _ (by omega)
        rw [e]
        constructor
        · intro h; exact ⟨x, by simp, rfl, h⟩
        · rintro ⟨y, hy, hay, h3⟩
          rcases List.mem_append.1 hy with hy | hy
          · have := hfree y hy hay; omega
          · simp at hy; subst hy; exact h3
      · have e : ((clr (ls.getD x bk0).st b).set (a x) (endG cs (ls.getD x bk0))).getD m 0 = c1 (ls.getD x bk0).st (b.getD m 0) := by
          rw [← getD_clr _ _ _ (by omega)]
          simp only [List.getD_eq_getElem?_getD]
          rw [List.getElem?_set_ne (fun h => hma h.symm)]
        rw [e]
        have h1 := hb m hm6' t (by omega)
        have h2 : (t < c1 (ls.getD x bk0).st (b.getD m 0)) ↔ t < b.getD m 0 := by unfold c1; split <;> omega
        rw [h2, h1]
        constructor
        · rintro ⟨y, hy, hay, h3⟩; exact ⟨y, by simp [hy], hay, h3⟩
        · rintro ⟨y, hy, hay, h3⟩
          rcases List.mem_append.1 hy with hy | hy
          · exact ⟨y, hy, hay, h3⟩
          · simp at hy; subst hy; exact (hma hay.symm).elim
    have ih := fun h1 h2 => chOk_iff (stf := stf) (a := a) hm6 hen (xs := xs) (P := P ++ [x]) (s := (ls.getD x bk0).st) hst0 (fun y hy => ⟨(hx y (by simp [hy])).1, hp.1 y hy⟩) hp.2 (next h1 h2)
    constructor
    · rintro ⟨g1, ⟨g2, g3, g4⟩, g5⟩
      have g6 := (key g1).1 g3
      obtain ⟨i1, i2, i3⟩ := (ih g1 g6).1 g5
      refine ⟨fun y hy => ?_, fun y hy z hz => ?_, List.pairwise_cons.2 ⟨fun y hy => i2 y hy x (by simp), i3⟩⟩
      · rcases List.mem_cons.1 hy with rfl | hy
        · exact ⟨g1, g2, g4⟩
        · exact i1 y hy
      · rcases List.mem_cons.1 hy with rfl | hy
        · exact g6 z hz
        · exact i2 y hy z (by simp [hz])
    · rintro ⟨g1, g2, g3⟩
      rw [List.pairwise_cons] at g3
      obtain ⟨b1, b2, b3⟩ := g1 x (by simp)
      have g6 := g2 x (by simp)
      refine ⟨b1, ⟨b2, (key b1).2 g6, b3⟩, (ih b1 g6).2 ⟨fun y hy => g1 y (by simp [hy]), fun y hy z hz => ?_, g3.2⟩⟩
      rcases List.mem_append.1 hz with hz | hz
      · exact g2 y (by simp [hy]) z hz
      · simp at hz; subst hz; exact g3.1 y hy
def Z6 : List Int := List.replicate 6 0
theorem tog_symm (cs : List Ch) (a b : Bk) : togB cs a b = togB cs b a := by unfold togB; rw [Bool.and_comm]
theorem rota_iff {cs : List Ch} {ms : List Ma} {ls : List Bk} {stf : List Int} {o : List Nat} (hm6 : ms.length ≤ 6) (hen : ∀ x, x < ls.length → 0 ≤ (ls.getD x bk0).st ∧ (ls.getD x bk0).st < endG cs (ls.getD x bk0)) (ho : OV ls o) : rF cs ms ls stf o Z6 = true ↔ ∃ a, VA cs ms ls a ∧ Cmp ls stf a := by
  have hmem : ∀ x, x ∈ o ↔ x < ls.length := fun x => by rw [ho.perm.mem_iff, List.mem_range]
  have hnd : o.Nodup := ho.perm.nodup_iff.2 List.nodup_range
  rw [rF_iff hnd]
  have h0 : ∀ a, BInv cs ls a [] 0 Z6 := fun a => ⟨rfl, fun m hm t ht => by
    have : Z6.getD m 0 = 0 := by simp only [Z6, List.getD_eq_getElem?_getD, List.getElem?_replicate]; split <;> rfl
    rw [this]
    constructor
    · intro h; omega
    · rintro ⟨y, hy, _⟩; cases hy⟩
  have hall : ∀ a, chOk cs ms ls stf a o Z6 ↔ VA cs ms ls a ∧ Cmp ls stf a := by
    intro a
    rw [chOk_iff hm6 hen (Int.le_refl 0) (fun x hx => ⟨(hmem x).1 hx, (hen x ((hmem x).1 hx)).1⟩) ho.sort (h0 a)]
    have hpw : o.Pairwise (fun y x => a y = a x → endG cs (ls.getD y bk0) ≤ (ls.getD x bk0).st) ↔ o.Pairwise (fun y x => a y = a x → togB cs (ls.getD y bk0) (ls.getD x bk0) = false) := by
      have hs := List.pairwise_iff_getElem.1 ho.sort
      rw [List.pairwise_iff_getElem, List.pairwise_iff_getElem]
      have hij : ∀ (i j : Nat) (hi : i < o.length) (hj : j < o.length), i < j → (endG cs (ls.getD o[i] bk0) ≤ (ls.getD o[j] bk0).st ↔ togB cs (ls.getD o[i] bk0) (ls.getD o[j] bk0) = false) := by
        intro i j hi hj hlt
        have h1 := hs i j hi hj hlt
        have h2 := hen o[j] ((hmem _).1 (List.getElem_mem hj))
        unfold togB
        rw [Bool.and_eq_false_iff, decide_eq_false_iff_not, decide_eq_false_iff_not]
        omega
      exact ⟨fun h i j hi hj hlt e => (hij i j hi hj hlt).1 (h i j hi hj hlt e), fun h i j hi hj hlt e => (hij i j hi hj hlt).2 (h i j hi hj hlt e)⟩
    have hpr : o.Pairwise (fun y x => a y = a x → togB cs (ls.getD y bk0) (ls.getD x bk0) = false) ↔ ∀ i j, i < j → j < ls.length → a i = a j → togB cs (ls.getD i bk0) (ls.getD j bk0) = false := by
      rw [ho.perm.pairwise_iff (fun {x y} h e => by rw [tog_symm]; exact h e.symm), List.pairwise_iff_getElem]
      constructor
      · intro h i j hij hj
        have := h i j (by simp; omega) (by simp; omega) hij
        simpa using this
      · intro h i j hi hj hij
        simp at hi hj
        simpa using h i j hij hj
    rw [hpw, hpr]
    constructor
    · rintro ⟨h1, _, h3⟩
      exact ⟨⟨fun x hx => by have := h1 x ((hmem x).2 hx); exact ⟨this.1, this.2.2⟩, h3⟩, fun x hx => (h1 x ((hmem x).2 hx)).2.1⟩
    · rintro ⟨⟨h1, h2⟩, h3⟩
      exact ⟨fun x hx => ⟨(h1 x ((hmem x).1 hx)).1, h3 x ((hmem x).1 hx), (h1 x ((hmem x).1 hx)).2⟩, (fun x _ y hy => by cases hy), h2⟩
  constructor
  · rintro ⟨a, ha⟩; exact ⟨a, (hall a).1 ha⟩
  · rintro ⟨a, ha⟩; exact ⟨a, (hall a).2 ha⟩
end Go.Proofs.Try
