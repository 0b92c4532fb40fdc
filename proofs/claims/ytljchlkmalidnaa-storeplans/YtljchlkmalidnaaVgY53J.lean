/- A part of the proof of StorePlans: contracts of functions, with plain laws that they need. -/
import Derived.Test.YtljchlkmalidnaaVgWd
import Derived.Test.YtljchlkmalidnaaVgDm
import Derived.Test.YtljchlkmalidnaaVgYKJ
set_option linter.all false
set_option maxHeartbeats 8000000
set_option maxRecDepth 20000
namespace Go.Proofs.Try
open Go.Vg

/-! count -/
theorem ar109 : arT Try.prog 109 = some (8, 107) := by kernel_rfl
theorem tz107 : tsz Try.prog 107 = some 2 := by kernel_rfl
theorem count_spec {life : Int} {c : Nat} {ss : List Ln} {F : Mem} {N r vr il vl ik vk : Nat} (hp : CV life c ss) (hR : CM life c ss F N r vr il vl ik vk) :
    ∀ (xs : List Ln) (i : Nat) (ii : Int) (s : List (Int × Int)) (G : Mem) (mp : Nat → List (Value × AV)), ss.drop i = xs → i + xs.length = ss.length → ii = (i : Int) → s.length = c → (∀ p ∈ s, ShB p) → (∀ j, i ≤ j → j < ss.length → MoS life c (ss.drop j) (mp j)) →
      Go.Vg.Spec Try.prog 80 [.optr r vr 0 0, .int ii, .agg ((flS (s8 c s)).map AV.int)] (Mm F ss.length mp G) (fun y m' => y = .int (gS Ln.fr Ln.to Ln.uses life xs s : Nat) ∧ CtQ life c ss F G mp i m') := by
  obtain ⟨hlf, hc4, hl6, hasc, hln⟩ := hp
  obtain ⟨hN, hr, hl, hk⟩ := hR
  have hone : ∀ c : List Int, (∀ x, x ∈ List.map AV.int c → x.one) = True := fun c => eq_true fun x hx => by
    obtain ⟨a, _, rfl⟩ := List.mem_map.1 hx; simp [AV.one, Value.oneCell']
  have hfl : ∀ c : List Int, (AV.agg (List.map AV.int c)).flat = True := fun c => hone c
  intro xs
  induction xs with
  | nil =>
    intro i ii s G mp hxs hi hii hs hb hmp
    subst hii
    have hil : i = ss.length := by simpa using hi
    have hgr := Mm_low hr ss.length mp G
    have hB : (Mm F ss.length mp G).length = N + (ss.length + G.length) := by rw [Mm_len, hN]
    have hZ := flS_len (s8 c s)
    rw [s8_len hs (by omega)] at hZ
    generalize flS (s8 c s) = Z at *
    have hdt : decide ((i : Int) = (ss.length : Int)) = true := decide_eq_true (by omega)
    (refine Spec.of_bodyA Try.func80 rfl (by rw [Try.ntmps80]; simp) ?_; rw [Try.results80, Try.ntmps80]; simp only [entry, zipArgs, Nat.reduceAdd])
    repeat (first | apply Wp.seq | apply Wp.block | (apply Run.next; (simp only [push_cast, seval, hgr, hZ, hB, ↓hone, ↓hfl, hdt] <;> exact evT); ((try simp only [push_cast, seval, hgr, hZ, hB, ↓hone, ↓hfl, hdt]) <;> exact sT)) | (apply Run.nil; dsimp only [sQ, tQ, bQ]) | (refine Wp.rn ?_) | (apply Wp.skip; dsimp only [sQ, tQ, bQ]) | (apply Wp.exit; dsimp only [sQ, tQ, bQ]; simp only [reduceIte]) | (apply Run.gtrue; (simp only [push_cast, seval, hgr, hZ, hB, ↓hone, ↓hfl, hdt] <;> exact evT); (simp only [push_cast, seval, hgr, hZ, hB, ↓hone, ↓hfl, hdt] <;> exact evT)) | (apply Run.gfalse (.bool false); (simp only [push_cast, seval, hgr, hZ, hB, ↓hone, ↓hfl, hdt] <;> exact evT); dsimp only [S.put, optG]) | (apply Wp.condT; (simp only [push_cast, seval, hgr, hZ, hB, ↓hone, ↓hfl, hdt] <;> exact evT)) | (apply Wp.condF; (simp only [push_cast, seval, hgr, hZ, hB, ↓hone, ↓hfl, hdt] <;> exact evT)))
    (apply Wp.ret; (try dsimp only [sQ, tQ, bQ]); apply leaveA; exact rfl; (simp only [push_cast, seval, hgr, hZ, hB, ↓hone, ↓hfl, hdt] <;> exact evT); (focus (first | (simp only [push_cast, seval, hgr, hZ, hB, ↓hone, ↓hfl, hdt]; done) | trivial | (simp only [push_cast, seval, hgr, hZ, hB, ↓hone, ↓hfl, hdt]; trivial) | (simp; done))); (try simp only [push_cast, seval, hgr, hZ, hB, ↓hone, ↓hfl, hdt]))
    exact ⟨rfl, mp, _, fun _ _ => rfl, hmp, rfl⟩
  | cons x xs ih =>
    intro i ii s G mp hxs hi hii hs hb hmp
    subst hii
    have hin : i < ss.length := by simp at hi; omega
    have hx0 : ss.getD i ln0 = x ∧ ss.drop (i + 1) = xs := by
      rw [List.drop_eq_getElem_cons (by omega)] at hxs
      simp only [List.cons.injEq] at hxs
      exact ⟨by simp [show i < ss.length by omega, hxs.1], hxs.2⟩
    obtain ⟨hx0, hxs'⟩ := hx0
    have hxb := hln i hin
    rw [hx0] at hxb
    have hmo := hmp i (Nat.le_refl _) hin
    rw [hxs] at hmo
    have hgr := Mm_low hr ss.length
    have hgl := Mm_low hl ss.length
    have hgk := Mm_low hk ss.length
    have hgm := fun mp G l => Mm_map F ss.length mp G l hin
    have hsm := fun mp G l L => Mm_setm F ss.length mp G l hin L
    rw [hN] at hgm hsm
    obtain ⟨B, hBe⟩ : ∃ B, B = N + (ss.length + G.length) := ⟨_, rfl⟩
    have hB : ∀ mp, (Mm F ss.length mp G).length = B := fun mp => by rw [Mm_len, hN, hBe]
    have hb0 : ∀ mp l, (Mm F ss.length mp G ++ l)[B]? = l[0]? := fun mp l => getF0 (hB mp)
    have hbj : ∀ mp l j, (Mm F ss.length mp G ++ l)[B + j]? = l[j]? := fun mp l j => getF (hB mp) j
    have hs0 : ∀ mp l e, (Mm F ss.length mp G ++ l).set B e = Mm F ss.length mp G ++ l.set 0 e := fun mp l e => setF0 (hB mp) e
    have hsj : ∀ mp l j e, (Mm F ss.length mp G ++ l).set (B + j) e = Mm F ss.length mp G ++ l.set j e := fun mp l j e => setF (hB mp) j e
    have hap : ∀ mp (l l' : Mem), (Mm F ss.length mp G ++ l) ++ l' = Mm F ss.length mp G ++ (l ++ l') := fun mp l l' => List.append_assoc _ _ _
    have hdf : decide ((i : Int) = (ss.length : Int)) = false := decide_eq_false (by omega)
    have hki := fun d => knL_get (N := N) hin d
    have hknl : (knL N ss.length).length = ss.length := by simp [knL]
    have hgx : ∀ d, (ss.map lnA).getD i d = lnA x := fun d => by rw [getD_mapA hin d ln0, hx0]
    have hM0 := mixS_0 x.fr (s8 c s)
    have hMA := mixS_all x.fr hs
    have h8 := s8_len hs (by omega : c ≤ 8)
    have hZ := flS_len (s8 c s)
    rw [h8] at hZ
    have hZt : (flS (s8 c s)).take 16 = flS (s8 c s) := List.take_of_length_le (by omega)
    (refine Spec.of_bodyA Try.func80 rfl (by rw [Try.ntmps80]; simp) ?_; rw [Try.results80, Try.ntmps80]; simp only [entry, zipArgs, Nat.reduceAdd])
    repeat (first | apply Wp.seq | apply Wp.block | (apply Run.next; (simp only [push_cast, seval, hgr, hgl, hgk, hgm, hsm, hB, hb0, hbj, hs0, hsj, hap, ↓hone, ↓hfl, hdf, hZ, hZt, hki, hgx, lnA, List.length_append, Nat.mul_one, hknl] <;> exact evT); ((try simp only [push_cast, seval, hgr, hgl, hgk, hgm, hsm, hB, hb0, hbj, hs0, hsj, hap, ↓hone, ↓hfl, hdf, hZ, hZt, hki, hgx, lnA, List.length_append, Nat.mul_one, hknl]) <;> exact sT)) | (apply Run.nil; dsimp only [sQ, tQ, bQ]) | (refine Wp.rn ?_) | (apply Wp.skip; dsimp only [sQ, tQ, bQ]) | (apply Wp.exit; dsimp only [sQ, tQ, bQ]; simp only [reduceIte]) | (apply Run.gtrue; (simp only [push_cast, seval, hgr, hgl, hgk, hgm, hsm, hB, hb0, hbj, hs0, hsj, hap, ↓hone, ↓hfl, hdf, hZ, hZt, hki, hgx, lnA, List.length_append, Nat.mul_one, hknl] <;> exact evT); (simp only [push_cast, seval, hgr, hgl, hgk, hgm, hsm, hB, hb0, hbj, hs0, hsj, hap, ↓hone, ↓hfl, hdf, hZ, hZt, hki, hgx, lnA, List.length_append, Nat.mul_one, hknl] <;> exact evT)) | (apply Run.gfalse (.bool false); (simp only [push_cast, seval, hgr, hgl, hgk, hgm, hsm, hB, hb0, hbj, hs0, hsj, hap, ↓hone, ↓hfl, hdf, hZ, hZt, hki, hgx, lnA, List.length_append, Nat.mul_one, hknl] <;> exact evT); dsimp only [S.put, optG]) | (apply Wp.condT; (simp only [push_cast, seval, hgr, hgl, hgk, hgm, hsm, hB, hb0, hbj, hs0, hsj, hap, ↓hone, ↓hfl, hdf, hZ, hZt, hki, hgx, lnA, List.length_append, Nat.mul_one, hknl] <;> exact evT)) | (apply Wp.condF; (simp only [push_cast, seval, hgr, hgl, hgk, hgm, hsm, hB, hb0, hbj, hs0, hsj, hap, ↓hone, ↓hfl, hdf, hZ, hZt, hki, hgx, lnA, List.length_append, Nat.mul_one, hknl] <;> exact evT)))
    refine Wp.loop (fun (k : Nat) => { t := [(0, .optr r vr 0 0), (1, .int i), (5, .optr B 0 0 0), (6, .int 0), (7, .optr (B + 1) 0 0 0), (30, .int c), (31, .int k)], m := Mm F ss.length mp G ++ [⟨0, .row 16 [.agg ((flS (mixS x.fr (s8 c s) k)).map AV.int)]⟩, ⟨0, .row 5 [lnA x]⟩], n := 123 }) (fun k => k ≤ c) (fun k => c - k) 0 ?_ ?_ ?_
    · rw [hM0]
      (refine Le.of ?_ ?_ rfl rfl <;> (try simp only [push_cast, seval, hgr, hgl, hgk, hgm, hsm, hB, hb0, hbj, hs0, hsj, hap, ↓hone, ↓hfl, hdf, hZ, hZt, hki, hgx, lnA, List.length_append, Nat.mul_one, hknl]) <;> (try (with_reducible rfl)))
      all_goals rfl
    · simp
    · intro k hk4
      have hMl := mixS_len x.fr (s8 c s) k
      rw [h8] at hMl
      have hFl := flS_len (mixS x.fr (s8 c s) k)
      rw [hMl] at hFl
      repeat (first | apply Wp.seq | apply Wp.block | (apply Run.next; (simp only [push_cast, seval, hgr, hgl, hgk, hgm, hsm, hB, hb0, hbj, hs0, hsj, hap, ↓hone, ↓hfl, hdf, hZ, hZt, hki, hgx, lnA, List.length_append, Nat.mul_one, hknl] <;> exact evT); ((try simp only [push_cast, seval, hgr, hgl, hgk, hgm, hsm, hB, hb0, hbj, hs0, hsj, hap, ↓hone, ↓hfl, hdf, hZ, hZt, hki, hgx, lnA, List.length_append, Nat.mul_one, hknl]) <;> exact sT)) | (apply Run.nil; dsimp only [sQ, tQ, bQ]) | (refine Wp.rn ?_) | (apply Wp.skip; dsimp only [sQ, tQ, bQ]) | (apply Wp.exit; dsimp only [sQ, tQ, bQ]; simp only [reduceIte]))
      rcases Nat.lt_or_ge k c with hk5 | hk5
      · have hlt : decide ((k : Int) < (c : Int)) = true := decide_eq_true (by omega)
        have hg0 := @flS_get0 (mixS x.fr (s8 c s) k) k
        rw [mixS_get x.fr (by omega)] at hg0
        have hsu := mixS_succ x.fr (s := s8 c s) (k := k) (by omega)
        have hsa := mixS_same x.fr (s := s8 c s) (k := k) (by omega)
        have hst := flS_set0 0 (s := mixS x.fr (s8 c s) k) (k := k) (by omega)
        rw [mixS_get x.fr (by omega)] at hst
        generalize mixS x.fr (s8 c s) k = M at *
        generalize (s8 c s).getD k (0, 0) = p at *
        obtain ⟨u, hu⟩ : ∃ u, p.1 = u := ⟨_, rfl⟩
        rw [hu] at hg0 hsu hsa
        have hgd : ∀ d, ((flS M).map AV.int).getD (k * 2) d = .int u := fun d => by
          rw [getD_mapA (by omega) d 0, hg0]
        have hmd := set_mid (flS M) (k * 2) 0 (by omega)
        repeat (first | apply Wp.seq | apply Wp.block | (apply Run.next; (simp only [push_cast, seval, hgr, hgl, hgk, hgm, hsm, hB, hb0, hbj, hs0, hsj, hap, ↓hone, ↓hfl, hdf, hki, lnA, List.length_append, Nat.mul_one, hknl, hlt, hgd, hFl, hmd] <;> exact evT); ((try simp only [push_cast, seval, hgr, hgl, hgk, hgm, hsm, hB, hb0, hbj, hs0, hsj, hap, ↓hone, ↓hfl, hdf, hki, lnA, List.length_append, Nat.mul_one, hknl, hlt, hgd, hFl, hmd]) <;> exact sT)) | (apply Run.nil; dsimp only [sQ, tQ, bQ]) | (refine Wp.rn ?_) | (apply Wp.skip; dsimp only [sQ, tQ, bQ]) | (apply Wp.exit; dsimp only [sQ, tQ, bQ]; simp only [reduceIte]) | (apply Run.gtrue; (simp only [push_cast, seval, hgr, hgl, hgk, hgm, hsm, hB, hb0, hbj, hs0, hsj, hap, ↓hone, ↓hfl, hdf, hki, lnA, List.length_append, Nat.mul_one, hknl, hlt, hgd, hFl, hmd] <;> exact evT); (simp only [push_cast, seval, hgr, hgl, hgk, hgm, hsm, hB, hb0, hbj, hs0, hsj, hap, ↓hone, ↓hfl, hdf, hki, lnA, List.length_append, Nat.mul_one, hknl, hlt, hgd, hFl, hmd] <;> exact evT)) | (apply Run.gfalse (.bool false); (simp only [push_cast, seval, hgr, hgl, hgk, hgm, hsm, hB, hb0, hbj, hs0, hsj, hap, ↓hone, ↓hfl, hdf, hki, lnA, List.length_append, Nat.mul_one, hknl, hlt, hgd, hFl, hmd] <;> exact evT); dsimp only [S.put, optG]) | (apply Wp.condT; (simp only [push_cast, seval, hgr, hgl, hgk, hgm, hsm, hB, hb0, hbj, hs0, hsj, hap, ↓hone, ↓hfl, hdf, hki, lnA, List.length_append, Nat.mul_one, hknl, hlt, hgd, hFl, hmd] <;> exact evT)) | (apply Wp.condF; (simp only [push_cast, seval, hgr, hgl, hgk, hgm, hsm, hB, hb0, hbj, hs0, hsj, hap, ↓hone, ↓hfl, hdf, hki, lnA, List.length_append, Nat.mul_one, hknl, hlt, hgd, hFl, hmd] <;> exact evT)))
        (refine Wp.rnD 7 ?_; apply exAb; (((repeat (apply Abn.next; (simp only [push_cast, seval, hgr, hgl, hgk, hgm, hsm, hB, hb0, hbj, hs0, hsj, hap, ↓hone, ↓hfl, hdf, hki, lnA, List.length_append, Nat.mul_one, hknl, hlt, hgd, hFl, hmd] <;> exact evT); ((try simp only [push_cast, seval, hgr, hgl, hgk, hgm, hsm, hB, hb0, hbj, hs0, hsj, hap, ↓hone, ↓hfl, hdf, hki, lnA, List.length_append, Nat.mul_one, hknl, hlt, hgd, hFl, hmd]) <;> exact sT)))); exact Abn.nil))
        repeat (first | apply Wp.seq | apply Wp.block | (apply Run.next; (simp only [push_cast, seval, hgr, hgl, hgk, hgm, hsm, hB, hb0, hbj, hs0, hsj, hap, ↓hone, ↓hfl, hdf, hki, lnA, List.length_append, Nat.mul_one, hknl, hlt, hgd, hFl, hmd] <;> exact evT); ((try simp only [push_cast, seval, hgr, hgl, hgk, hgm, hsm, hB, hb0, hbj, hs0, hsj, hap, ↓hone, ↓hfl, hdf, hki, lnA, List.length_append, Nat.mul_one, hknl, hlt, hgd, hFl, hmd]) <;> exact sT)) | (apply Run.nil; dsimp only [sQ, tQ, bQ]) | (refine Wp.rn ?_) | (apply Wp.skip; dsimp only [sQ, tQ, bQ]) | (apply Wp.exit; dsimp only [sQ, tQ, bQ]; simp only [reduceIte]))
        (apply Wp.cond; (simp only [push_cast, seval, hgr, hgl, hgk, hgm, hsm, hB, hb0, hbj, hs0, hsj, hap, ↓hone, ↓hfl, hdf, hki, lnA, List.length_append, Nat.mul_one, hknl, hlt, hgd, hFl, hmd] <;> exact evT))
        · intro h4
          simp only [decide_eq_true_eq] at h4
          rw [if_pos h4] at hsu
          rw [hsu] at hst
          repeat (first | apply Wp.seq | apply Wp.block | (apply Run.next; (simp only [push_cast, seval, hgr, hgl, hgk, hgm, hsm, hB, hb0, hbj, hs0, hsj, hap, ↓hone, ↓hfl, hdf, hki, lnA, List.length_append, Nat.mul_one, hknl, hlt, hgd, hFl, hmd] <;> exact evT); ((try simp only [push_cast, seval, hgr, hgl, hgk, hgm, hsm, hB, hb0, hbj, hs0, hsj, hap, ↓hone, ↓hfl, hdf, hki, lnA, List.length_append, Nat.mul_one, hknl, hlt, hgd, hFl, hmd]) <;> exact sT)) | (apply Run.nil; dsimp only [sQ, tQ, bQ]) | (refine Wp.rn ?_) | (apply Wp.skip; dsimp only [sQ, tQ, bQ]) | (apply Wp.exit; dsimp only [sQ, tQ, bQ]; simp only [reduceIte]))
          refine ⟨k + 1, ?_, by omega, by omega⟩
          rw [← hst]
          (refine Le.of ?_ ?_ rfl rfl <;> (try simp only [push_cast, seval, hgr, hgl, hgk, hgm, hsm, hB, hb0, hbj, hs0, hsj, hap, ↓hone, ↓hfl, hdf, hki, lnA, List.length_append, Nat.mul_one, hknl, hlt, hgd, hFl, hmd]) <;> (try (with_reducible rfl)))
        · intro h4
          simp only [decide_eq_false_iff_not] at h4
          rw [← hsa h4]
          repeat (first | apply Wp.seq | apply Wp.block | (apply Run.next; (simp only [push_cast, seval, hgr, hgl, hgk, hgm, hsm, hB, hb0, hbj, hs0, hsj, hap, ↓hone, ↓hfl, hdf, hki, lnA, List.length_append, Nat.mul_one, hknl, hlt, hgd, hFl, hmd] <;> exact evT); ((try simp only [push_cast, seval, hgr, hgl, hgk, hgm, hsm, hB, hb0, hbj, hs0, hsj, hap, ↓hone, ↓hfl, hdf, hki, lnA, List.length_append, Nat.mul_one, hknl, hlt, hgd, hFl, hmd]) <;> exact sT)) | (apply Run.nil; dsimp only [sQ, tQ, bQ]) | (refine Wp.rn ?_) | (apply Wp.skip; dsimp only [sQ, tQ, bQ]) | (apply Wp.exit; dsimp only [sQ, tQ, bQ]; simp only [reduceIte]))
          refine ⟨k + 1, ?_, by omega, by omega⟩
          (refine Le.of ?_ ?_ rfl rfl <;> (try simp only [push_cast, seval, hgr, hgl, hgk, hgm, hsm, hB, hb0, hbj, hs0, hsj, hap, ↓hone, ↓hfl, hdf, hki, lnA, List.length_append, Nat.mul_one, hknl, hlt, hgd, hFl, hmd]) <;> (try (with_reducible rfl)))
      · have hkc : k = c := by omega
        subst hkc
        have hlt : decide ((k : Int) < (k : Int)) = false := decide_eq_false (by omega)
        rw [hMA] at hFl hMl ⊢
        have hcs := clr_sh (f := x.fr) hb
        have hcl := clrS_len x.fr s
        have hcm : ∀ p ∈ clrS x.fr s, p.1 ≤ 0 ∨ x.fr < p.1 := fun p hp => clrS_mem hp
        have hgc := gS_clr (fr := Ln.fr) (to := Ln.to) (us := Ln.uses) (life := life) (f := x.fr) (x :: xs) s (fun l hl => by
          have hasc2 := Asc.drop (i := i) hasc
          rw [hxs] at hasc2
          have hm : l ∈ ss := List.mem_of_mem_drop (i := i) (by rw [hxs]; exact hl)
          obtain ⟨q, hq, rfl⟩ := List.getElem_of_mem hm
          have hb2 := hln q hq
          rw [show ss.getD q ln0 = ss[q] by simp [hq]] at hb2
          refine ⟨?_, hb2.1.1, hb2.1.2.1, hb2.2.1⟩
          rcases List.mem_cons.1 hl with e | e
          · rw [e]; exact Int.le_refl _
          · exact hasc2.1 _ e)
        generalize clrS x.fr s = C at *
        refine Wp.recut 5 (id := B) (ver := 0) (sz := 16) (sz' := 2) (ls := [(flS (s8 k C)).map AV.int]) (ls' := (s8 k C).map fun p => [AV.int p.1, AV.int p.2]) ?_ ?_ ?_ ?_ ?_ ?_ ?_
        · exact rfl
        · exact (hb0 _ _).trans rfl
        · simp only [List.mem_singleton]; rintro _ rfl; rw [List.length_map, hFl]
        · intro ys hys
          obtain ⟨p, _, rfl⟩ := List.mem_map.1 hys
          rfl
        · rw [flS_agg]; simp
        · intro h; cases h
        rw [pr_agg]
        simp only [hs0, List.set_cons_zero]
        have hcl' := hcl.trans hs
        have hsh := s8_sh (c := k) hcl' (by omega) hcs
        have hsort := sortSh_spec (m := Mm F ss.length mp G ++ [⟨1, .row 2 ((s8 k C).map prA)⟩, ⟨0, .row 5 [lnA x]⟩]) (e := B) (ver := 1) (g := 91) (caps := []) (caps' := []) (ky := kySh) (Enters.of Try.func91 rfl rfl) (s8 k C) k (by rw [hsh.1]; omega) (by omega) (by rw [List.length_append, hB]; simp) (fun _ => .nil) (by simp [okL]) (fun a ha b hb => cmpSh_pure a b (hsh.2 a ha) (hsh.2 b hb)) (by rw [hsh.1]; omega)
        have htk : (s8 k C).take k = C := by unfold s8; rw [List.take_append_of_le_length (by omega), List.take_of_length_le (by omega)]
        have hdr : (s8 k C).drop k = List.replicate (8 - k) (0, 0) := by unfold s8; rw [List.drop_append_of_le_length (by omega), List.drop_of_length_le (by omega), List.nil_append]
        rw [htk, hdr] at hsort
        simp only [hs0, List.set_cons_zero] at hsort
        repeat (first | apply Wp.seq | apply Wp.block | (apply Run.next; (simp only [push_cast, seval, hgr, hgl, hgk, hgm, hsm, hB, hb0, hbj, hs0, hsj, hap, ↓hone, ↓hfl, hdf, hki, lnA, List.length_append, Nat.mul_one, hknl, hlt] <;> exact evT); ((try simp only [push_cast, seval, hgr, hgl, hgk, hgm, hsm, hB, hb0, hbj, hs0, hsj, hap, ↓hone, ↓hfl, hdf, hki, lnA, List.length_append, Nat.mul_one, hknl, hlt]) <;> exact sT)) | (apply Run.nil; dsimp only [sQ, tQ, bQ]) | (refine Wp.rn ?_) | (apply Wp.skip; dsimp only [sQ, tQ, bQ]) | (apply Wp.exit; dsimp only [sQ, tQ, bQ]; simp only [reduceIte]) | (apply Run.gtrue; (simp only [push_cast, seval, hgr, hgl, hgk, hgm, hsm, hB, hb0, hbj, hs0, hsj, hap, ↓hone, ↓hfl, hdf, hki, lnA, List.length_append, Nat.mul_one, hknl, hlt] <;> exact evT); (simp only [push_cast, seval, hgr, hgl, hgk, hgm, hsm, hB, hb0, hbj, hs0, hsj, hap, ↓hone, ↓hfl, hdf, hki, lnA, List.length_append, Nat.mul_one, hknl, hlt] <;> exact evT)) | (apply Run.gfalse (.bool false); (simp only [push_cast, seval, hgr, hgl, hgk, hgm, hsm, hB, hb0, hbj, hs0, hsj, hap, ↓hone, ↓hfl, hdf, hki, lnA, List.length_append, Nat.mul_one, hknl, hlt] <;> exact evT); dsimp only [S.put, optG]) | (apply Wp.condT; (simp only [push_cast, seval, hgr, hgl, hgk, hgm, hsm, hB, hb0, hbj, hs0, hsj, hap, ↓hone, ↓hfl, hdf, hki, lnA, List.length_append, Nat.mul_one, hknl, hlt] <;> exact evT)) | (apply Wp.condF; (simp only [push_cast, seval, hgr, hgl, hgk, hgm, hsm, hB, hb0, hbj, hs0, hsj, hap, ↓hone, ↓hfl, hdf, hki, lnA, List.length_append, Nat.mul_one, hknl, hlt] <;> exact evT)))
        apply Run.sliceArr (id := B) (ver := 1) (b := k) (xs := (s8 k C).map prA) (k := .i64) ar109 tz107
        · exact rfl
        · exact (hb0 _ _).trans rfl
        · rw [List.length_map, hsh.1]; omega
        · decide
        · exact rfl
        · omega
        · (try dsimp only [S.put, optG])
          apply Run.spec (he := Enters.of Try.func90 rfl rfl) (hc := hsort)
          · exact rfl
          · exact rfl
          · (simp only [push_cast, seval, hgr, hgl, hgk, hgm, hsm, hB, hb0, hbj, hs0, hsj, hap, ↓hone, ↓hfl, hdf, hki, lnA, List.length_append, Nat.mul_one, hknl, hlt] <;> exact evT)
          · rintro _ _ ⟨T, hT1, hT2, -, rfl⟩
            rw [show T ++ List.replicate (8 - k) (0, 0) = s8 k T from rfl]
            dsimp only [S.put, optG]
            (apply Run.nil; dsimp only [sQ, tQ, bQ])
            have hTs : ∀ p ∈ T, ShB p := fun p hp => hcs p (hT2.mem_iff.1 hp)
            have hTsh := s8_sh (c := k) hT1 (by omega) hTs
            have hgT := (gS_perm (fr := Ln.fr) (to := Ln.to) (us := Ln.uses) (life := life) (x :: xs) hT2).trans hgc
            have hT8 : (s8 k T).length = 8 := hTsh.1
            have hWl := flS_len (s8 k T)
            rw [hTsh.1] at hWl
            refine Wp.recut 5 (id := B) (ver := 1) (sz := 2) (sz' := 16) (ls := (s8 k T).map fun p => [AV.int p.1, AV.int p.2]) (ls' := [(flS (s8 k T)).map AV.int]) ?_ ?_ ?_ ?_ ?_ ?_ ?_
            · exact rfl
            · rw [pr_agg]; exact (hb0 _ _).trans rfl
            · intro ys hys
              obtain ⟨p, _, rfl⟩ := List.mem_map.1 hys
              rfl
            · simp only [List.mem_singleton]; rintro _ rfl; rw [List.length_map, hWl]
            · rw [flS_agg]; simp
            · intro h
              have := congrArg List.length h
              rw [List.length_map, hTsh.1] at this
              cases this
            simp only [hs0, List.set_cons_zero, List.map_cons, List.map_nil]
            have hWt : (flS (s8 k T)).take 16 = flS (s8 k T) := List.take_of_length_le (by omega)
            have hkv := keyVs_ints (flS (s8 k T))
            have hek : eqKey (Value.agg (List.map (Value.int IntKind.i64) (flS (s8 k T))).toArray) (Value.agg (List.map (Value.int IntKind.i64) (flS (s8 k T))).toArray) = true := by
              have := eqKey_B (flS (s8 k T)) (flS (s8 k T)); simpa using this
            have hgb := goodSS hTsh
            have hgl2 := hmo.good
            have hkB : Maps.Keyed Try.prog 109 = True := eq_true keyedS
            have hmv := fun v => hmo.val T v hT1
            have hup := hmo.upd hT1 hTsh
            rw [hgT] at hmv hup
            rw [show T ++ List.replicate (8 - k) (0, 0) = s8 k T from rfl] at hup
            change ∀ v, findL (mp i) (kyV (flS (s8 k T))) = some v → v = _ at hmv
            generalize hLm : mp i = L0 at hmo hgl2 hmv hup
            cases hf : findL L0 (kyV (flS (s8 k T))) with
            | some v =>
              obtain rfl := hmv v hf
              repeat (first | apply Wp.seq | apply Wp.block | (apply Run.next; (simp only [push_cast, seval, hgr, hgl, hgk, hgm, hsm, hB, hb0, hbj, hs0, hsj, hap, ↓hone, ↓hfl, hdf, hki, lnA, List.length_append, Nat.mul_one, hknl, hWl, hWt, hkv, hek, hgb, hkB, hgl2, hLm, hf] <;> exact evT); ((try simp only [push_cast, seval, hgr, hgl, hgk, hgm, hsm, hB, hb0, hbj, hs0, hsj, hap, ↓hone, ↓hfl, hdf, hki, lnA, List.length_append, Nat.mul_one, hknl, hWl, hWt, hkv, hek, hgb, hkB, hgl2, hLm, hf]) <;> exact sT)) | (apply Run.nil; dsimp only [sQ, tQ, bQ]) | (refine Wp.rn ?_) | (apply Wp.skip; dsimp only [sQ, tQ, bQ]) | (apply Wp.exit; dsimp only [sQ, tQ, bQ]; simp only [reduceIte]) | (apply Run.gtrue; (simp only [push_cast, seval, hgr, hgl, hgk, hgm, hsm, hB, hb0, hbj, hs0, hsj, hap, ↓hone, ↓hfl, hdf, hki, lnA, List.length_append, Nat.mul_one, hknl, hWl, hWt, hkv, hek, hgb, hkB, hgl2, hLm, hf] <;> exact evT); (simp only [push_cast, seval, hgr, hgl, hgk, hgm, hsm, hB, hb0, hbj, hs0, hsj, hap, ↓hone, ↓hfl, hdf, hki, lnA, List.length_append, Nat.mul_one, hknl, hWl, hWt, hkv, hek, hgb, hkB, hgl2, hLm, hf] <;> exact evT)) | (apply Run.gfalse (.bool false); (simp only [push_cast, seval, hgr, hgl, hgk, hgm, hsm, hB, hb0, hbj, hs0, hsj, hap, ↓hone, ↓hfl, hdf, hki, lnA, List.length_append, Nat.mul_one, hknl, hWl, hWt, hkv, hek, hgb, hkB, hgl2, hLm, hf] <;> exact evT); dsimp only [S.put, optG]) | (apply Wp.condT; (simp only [push_cast, seval, hgr, hgl, hgk, hgm, hsm, hB, hb0, hbj, hs0, hsj, hap, ↓hone, ↓hfl, hdf, hki, lnA, List.length_append, Nat.mul_one, hknl, hWl, hWt, hkv, hek, hgb, hkB, hgl2, hLm, hf] <;> exact evT)) | (apply Wp.condF; (simp only [push_cast, seval, hgr, hgl, hgk, hgm, hsm, hB, hb0, hbj, hs0, hsj, hap, ↓hone, ↓hfl, hdf, hki, lnA, List.length_append, Nat.mul_one, hknl, hWl, hWt, hkv, hek, hgb, hkB, hgl2, hLm, hf] <;> exact evT)))
              (refine Wp.rnD 14 ?_; apply exAb; (((repeat (apply Abn.next; (simp only [push_cast, seval, hgr, hgl, hgk, hgm, hsm, hB, hb0, hbj, hs0, hsj, hap, ↓hone, ↓hfl, hdf, hki, lnA, List.length_append, Nat.mul_one, hknl, hWl, hWt, hkv, hek, hgb, hkB, hgl2, hLm, hf] <;> exact evT); ((try simp only [push_cast, seval, hgr, hgl, hgk, hgm, hsm, hB, hb0, hbj, hs0, hsj, hap, ↓hone, ↓hfl, hdf, hki, lnA, List.length_append, Nat.mul_one, hknl, hWl, hWt, hkv, hek, hgb, hkB, hgl2, hLm, hf]) <;> exact sT)))); exact Abn.nil))
              repeat (first | apply Wp.seq | apply Wp.block | (apply Run.next; (simp only [push_cast, seval, hgr, hgl, hgk, hgm, hsm, hB, hb0, hbj, hs0, hsj, hap, ↓hone, ↓hfl, hdf, hki, lnA, List.length_append, Nat.mul_one, hknl, hWl, hWt, hkv, hek, hgb, hkB, hgl2, hLm, hf] <;> exact evT); ((try simp only [push_cast, seval, hgr, hgl, hgk, hgm, hsm, hB, hb0, hbj, hs0, hsj, hap, ↓hone, ↓hfl, hdf, hki, lnA, List.length_append, Nat.mul_one, hknl, hWl, hWt, hkv, hek, hgb, hkB, hgl2, hLm, hf]) <;> exact sT)) | (apply Run.nil; dsimp only [sQ, tQ, bQ]) | (refine Wp.rn ?_) | (apply Wp.skip; dsimp only [sQ, tQ, bQ]) | (apply Wp.exit; dsimp only [sQ, tQ, bQ]; simp only [reduceIte]) | (apply Run.gtrue; (simp only [push_cast, seval, hgr, hgl, hgk, hgm, hsm, hB, hb0, hbj, hs0, hsj, hap, ↓hone, ↓hfl, hdf, hki, lnA, List.length_append, Nat.mul_one, hknl, hWl, hWt, hkv, hek, hgb, hkB, hgl2, hLm, hf] <;> exact evT); (simp only [push_cast, seval, hgr, hgl, hgk, hgm, hsm, hB, hb0, hbj, hs0, hsj, hap, ↓hone, ↓hfl, hdf, hki, lnA, List.length_append, Nat.mul_one, hknl, hWl, hWt, hkv, hek, hgb, hkB, hgl2, hLm, hf] <;> exact evT)) | (apply Run.gfalse (.bool false); (simp only [push_cast, seval, hgr, hgl, hgk, hgm, hsm, hB, hb0, hbj, hs0, hsj, hap, ↓hone, ↓hfl, hdf, hki, lnA, List.length_append, Nat.mul_one, hknl, hWl, hWt, hkv, hek, hgb, hkB, hgl2, hLm, hf] <;> exact evT); dsimp only [S.put, optG]) | (apply Wp.condT; (simp only [push_cast, seval, hgr, hgl, hgk, hgm, hsm, hB, hb0, hbj, hs0, hsj, hap, ↓hone, ↓hfl, hdf, hki, lnA, List.length_append, Nat.mul_one, hknl, hWl, hWt, hkv, hek, hgb, hkB, hgl2, hLm, hf] <;> exact evT)) | (apply Wp.condF; (simp only [push_cast, seval, hgr, hgl, hgk, hgm, hsm, hB, hb0, hbj, hs0, hsj, hap, ↓hone, ↓hfl, hdf, hki, lnA, List.length_append, Nat.mul_one, hknl, hWl, hWt, hkv, hek, hgb, hkB, hgl2, hLm, hf] <;> exact evT)))
              (apply Wp.ret; (try dsimp only [sQ, tQ, bQ]); apply leaveA; exact rfl; (simp only [push_cast, seval, hgr, hgl, hgk, hgm, hsm, hB, hb0, hbj, hs0, hsj, hap, ↓hone, ↓hfl, hdf, hki, lnA, List.length_append, Nat.mul_one, hknl, hWl, hWt, hkv, hek, hgb, hkB, hgl2, hLm, hf] <;> exact evT); (focus (first | (simp only [push_cast, seval, hgr, hgl, hgk, hgm, hsm, hB, hb0, hbj, hs0, hsj, hap, ↓hone, ↓hfl, hdf, hki, lnA, List.length_append, Nat.mul_one, hknl, hWl, hWt, hkv, hek, hgb, hkB, hgl2, hLm, hf]; done) | trivial | (simp only [push_cast, seval, hgr, hgl, hgk, hgm, hsm, hB, hb0, hbj, hs0, hsj, hap, ↓hone, ↓hfl, hdf, hki, lnA, List.length_append, Nat.mul_one, hknl, hWl, hWt, hkv, hek, hgb, hkB, hgl2, hLm, hf]; trivial) | (simp; done))); (try simp only [push_cast, seval, hgr, hgl, hgk, hgm, hsm, hB, hb0, hbj, hs0, hsj, hap, ↓hone, ↓hfl, hdf, hki, lnA, List.length_append, Nat.mul_one, hknl, hWl, hWt, hkv, hek, hgb, hkB, hgl2, hLm, hf]))
              exact ⟨mp, _, fun _ _ => rfl, hmp, rfl⟩
            | none =>
              repeat (first | apply Wp.seq | apply Wp.block | (apply Run.next; (simp only [push_cast, seval, hgr, hgl, hgk, hgm, hsm, hB, hb0, hbj, hs0, hsj, hap, ↓hone, ↓hfl, hdf, hki, lnA, List.length_append, Nat.mul_one, hknl, hWl, hWt, hkv, hek, hgb, hkB, hgl2, hLm, hf] <;> exact evT); ((try simp only [push_cast, seval, hgr, hgl, hgk, hgm, hsm, hB, hb0, hbj, hs0, hsj, hap, ↓hone, ↓hfl, hdf, hki, lnA, List.length_append, Nat.mul_one, hknl, hWl, hWt, hkv, hek, hgb, hkB, hgl2, hLm, hf]) <;> exact sT)) | (apply Run.nil; dsimp only [sQ, tQ, bQ]) | (refine Wp.rn ?_) | (apply Wp.skip; dsimp only [sQ, tQ, bQ]) | (apply Wp.exit; dsimp only [sQ, tQ, bQ]; simp only [reduceIte]) | (apply Run.gtrue; (simp only [push_cast, seval, hgr, hgl, hgk, hgm, hsm, hB, hb0, hbj, hs0, hsj, hap, ↓hone, ↓hfl, hdf, hki, lnA, List.length_append, Nat.mul_one, hknl, hWl, hWt, hkv, hek, hgb, hkB, hgl2, hLm, hf] <;> exact evT); (simp only [push_cast, seval, hgr, hgl, hgk, hgm, hsm, hB, hb0, hbj, hs0, hsj, hap, ↓hone, ↓hfl, hdf, hki, lnA, List.length_append, Nat.mul_one, hknl, hWl, hWt, hkv, hek, hgb, hkB, hgl2, hLm, hf] <;> exact evT)) | (apply Run.gfalse (.bool false); (simp only [push_cast, seval, hgr, hgl, hgk, hgm, hsm, hB, hb0, hbj, hs0, hsj, hap, ↓hone, ↓hfl, hdf, hki, lnA, List.length_append, Nat.mul_one, hknl, hWl, hWt, hkv, hek, hgb, hkB, hgl2, hLm, hf] <;> exact evT); dsimp only [S.put, optG]) | (apply Wp.condT; (simp only [push_cast, seval, hgr, hgl, hgk, hgm, hsm, hB, hb0, hbj, hs0, hsj, hap, ↓hone, ↓hfl, hdf, hki, lnA, List.length_append, Nat.mul_one, hknl, hWl, hWt, hkv, hek, hgb, hkB, hgl2, hLm, hf] <;> exact evT)) | (apply Wp.condF; (simp only [push_cast, seval, hgr, hgl, hgk, hgm, hsm, hB, hb0, hbj, hs0, hsj, hap, ↓hone, ↓hfl, hdf, hki, lnA, List.length_append, Nat.mul_one, hknl, hWl, hWt, hkv, hek, hgb, hkB, hgl2, hLm, hf] <;> exact evT)))
              (refine Wp.rnD 14 ?_; apply exAb; (((repeat (apply Abn.next; (simp only [push_cast, seval, hgr, hgl, hgk, hgm, hsm, hB, hb0, hbj, hs0, hsj, hap, ↓hone, ↓hfl, hdf, hki, lnA, List.length_append, Nat.mul_one, hknl, hWl, hWt, hkv, hek, hgb, hkB, hgl2, hLm, hf] <;> exact evT); ((try simp only [push_cast, seval, hgr, hgl, hgk, hgm, hsm, hB, hb0, hbj, hs0, hsj, hap, ↓hone, ↓hfl, hdf, hki, lnA, List.length_append, Nat.mul_one, hknl, hWl, hWt, hkv, hek, hgb, hkB, hgl2, hLm, hf]) <;> exact sT)))); exact Abn.nil))
              repeat (first | apply Wp.seq | apply Wp.block | (apply Run.next; (simp only [push_cast, seval, hgr, hgl, hgk, hgm, hsm, hB, hb0, hbj, hs0, hsj, hap, ↓hone, ↓hfl, hdf, hki, lnA, List.length_append, Nat.mul_one, hknl, hWl, hWt, hkv, hek, hgb, hkB, hgl2, hLm, hf] <;> exact evT); ((try simp only [push_cast, seval, hgr, hgl, hgk, hgm, hsm, hB, hb0, hbj, hs0, hsj, hap, ↓hone, ↓hfl, hdf, hki, lnA, List.length_append, Nat.mul_one, hknl, hWl, hWt, hkv, hek, hgb, hkB, hgl2, hLm, hf]) <;> exact sT)) | (apply Run.nil; dsimp only [sQ, tQ, bQ]) | (refine Wp.rn ?_) | (apply Wp.skip; dsimp only [sQ, tQ, bQ]) | (apply Wp.exit; dsimp only [sQ, tQ, bQ]; simp only [reduceIte]) | (apply Run.gtrue; (simp only [push_cast, seval, hgr, hgl, hgk, hgm, hsm, hB, hb0, hbj, hs0, hsj, hap, ↓hone, ↓hfl, hdf, hki, lnA, List.length_append, Nat.mul_one, hknl, hWl, hWt, hkv, hek, hgb, hkB, hgl2, hLm, hf] <;> exact evT); (simp only [push_cast, seval, hgr, hgl, hgk, hgm, hsm, hB, hb0, hbj, hs0, hsj, hap, ↓hone, ↓hfl, hdf, hki, lnA, List.length_append, Nat.mul_one, hknl, hWl, hWt, hkv, hek, hgb, hkB, hgl2, hLm, hf] <;> exact evT)) | (apply Run.gfalse (.bool false); (simp only [push_cast, seval, hgr, hgl, hgk, hgm, hsm, hB, hb0, hbj, hs0, hsj, hap, ↓hone, ↓hfl, hdf, hki, lnA, List.length_append, Nat.mul_one, hknl, hWl, hWt, hkv, hek, hgb, hkB, hgl2, hLm, hf] <;> exact evT); dsimp only [S.put, optG]) | (apply Wp.condT; (simp only [push_cast, seval, hgr, hgl, hgk, hgm, hsm, hB, hb0, hbj, hs0, hsj, hap, ↓hone, ↓hfl, hdf, hki, lnA, List.length_append, Nat.mul_one, hknl, hWl, hWt, hkv, hek, hgb, hkB, hgl2, hLm, hf] <;> exact evT)) | (apply Wp.condF; (simp only [push_cast, seval, hgr, hgl, hgk, hgm, hsm, hB, hb0, hbj, hs0, hsj, hap, ↓hone, ↓hfl, hdf, hki, lnA, List.length_append, Nat.mul_one, hknl, hWl, hWt, hkv, hek, hgb, hkB, hgl2, hLm, hf] <;> exact evT)))
              (refine Wp.vacs 1 ?_; (try simp only [List.replicate_succ, List.replicate_zero, List.cons_append, List.nil_append]))
              have hTm : ∀ p ∈ T, p.1 ≤ 0 ∨ x.fr < p.1 := fun p hp => hcm p (hT2.mem_iff.1 hp)
              have hgc2 := gS_cons (fr := Ln.fr) (to := Ln.to) (us := Ln.uses) (life := life) x xs T
              rw [hgT, hT1] at hgc2
              obtain ⟨f, hfe⟩ : ∃ f : Nat → Nat, f = fun j => if (T.getD j (0, 0)).1 ≤ x.fr ∧ (T.getD j (0, 0)).2 + x.uses ≤ life then gS Ln.fr Ln.to Ln.uses life xs (T.set j (x.to, (T.getD j (0, 0)).2 + x.uses)) else 0 := ⟨_, rfl⟩
              rw [← hfe] at hgc2
              have hfj := fun j => congrFun hfe j
              clear hfe
              have hsm2 := gS_small Ln.fr Ln.to Ln.uses life (ls := x :: xs) (s := s) (by omega) (by omega)
              rw [hgc2] at hsm2
              refine Wp.loop (fun (q : Nat × (Nat → List (Value × AV)) × (Nat × Kind) × Mem) => { t := [(0, .optr r vr 0 0), (1, .int i), (5, .optr B 2 0 0), (6, .int (sgN q.1 f : Nat)), (7, .optr (B + 1) 0 0 0), (68, .int k), (69, .int q.1)], m := Mm F ss.length q.2.1 G ++ (⟨2, .row 16 [.agg ((flS (s8 k T)).map AV.int)]⟩ :: ⟨0, .row 5 [lnA x]⟩ :: ⟨q.2.2.1.1, q.2.2.1.2⟩ :: q.2.2.2), n := 123 })
                (fun q => q.1 ≤ k ∧ q.2.1 i = L0 ∧ (∀ j, j < i → q.2.1 j = mp j) ∧ (∀ j, i + 1 ≤ j → j < ss.length → MoS life k (ss.drop j) (q.2.1 j))) (fun q => k - q.1) (0, mp, (0, .row 1 []), []) ?_ ?_ ?_
              · (refine Le.of ?_ ?_ rfl rfl <;> (try simp only [push_cast, seval, hgr, hgl, hgk, hgm, hsm, hB, hb0, hbj, hs0, hsj, hap, ↓hone, ↓hfl, hdf, hki, lnA, List.length_append, Nat.mul_one, hknl, hWl, hWt, hkv, hek, hgb, hkB, hgl2, hLm, hf]) <;> (try (with_reducible rfl)))
                all_goals rfl
              · exact ⟨Nat.zero_le _, hLm, fun _ _ => rfl, fun j hj hj2 => hmp j (by omega) hj2⟩
              · rintro ⟨j, mp1, ⟨v, kd⟩, J⟩ ⟨hj1, hj2, hj3, hj4⟩
                simp only at hj1 hj2 hj3 hj4
                repeat (first | apply Wp.seq | apply Wp.block | (apply Run.calm; exact rfl; (simp only [push_cast, seval, hgr, hgl, hgk, hgm, hsm, hB, hb0, hbj, hs0, hsj, hap, ↓hone, ↓hfl, hdf, hki, lnA, List.length_append, Nat.mul_one, hknl, hWl, hWt, hkv, hek, hgb, hkB, hgl2, hj2, hf] <;> exact evT); ((try simp only [push_cast, seval, hgr, hgl, hgk, hgm, hsm, hB, hb0, hbj, hs0, hsj, hap, ↓hone, ↓hfl, hdf, hki, lnA, List.length_append, Nat.mul_one, hknl, hWl, hWt, hkv, hek, hgb, hkB, hgl2, hj2, hf]) <;> exact sT)) | (apply Run.nil; dsimp only [sQ, tQ, bQ]) | (refine Wp.rn ?_) | (apply Wp.skip; dsimp only [sQ, tQ, bQ]) | (apply Wp.exit; dsimp only [sQ, tQ, bQ]; simp only [reduceIte]))
                (apply Wp.cond; (simp only [push_cast, seval, hgr, hgl, hgk, hgm, hsm, hB, hb0, hbj, hs0, hsj, hap, ↓hone, ↓hfl, hdf, hki, lnA, List.length_append, Nat.mul_one, hknl, hWl, hWt, hkv, hek, hgb, hkB, hgl2, hj2, hf] <;> exact evT))
                · intro hc
                  simp only [decide_eq_true_eq, Int.ofNat_lt] at hc
                  have hf1 : sgN (j + 1) f = sgN j f + f j := rfl
                  have hmn := sgN_mono (f := f) (show j + 1 ≤ k by omega)
                  have hfj1 := hfj j
                  have hg0 := @flS_get0 (s8 k T) j
                  have hg1 := @flS_get1 (s8 k T) j
                  rw [s8_get (by omega)] at hg0 hg1
                  have hpT : T.getD j (0, 0) ∈ T := memA (0, 0) (by omega)
                  have hpb := hTs _ hpT
                  have hpm := hTm _ hpT
                  obtain ⟨u, hu⟩ : ∃ u, (T.getD j (0, 0)).1 = u := ⟨_, rfl⟩
                  obtain ⟨w, hw⟩ : ∃ w, (T.getD j (0, 0)).2 = w := ⟨_, rfl⟩
                  obtain ⟨hpb1, hpb2⟩ := hpb
                  rw [hu] at hg0 hpb1 hpm
                  rw [hw] at hg1 hpb2
                  rw [hu, hw] at hfj1
                  have hd0 : ∀ d, ((flS (s8 k T)).map AV.int).getD (j * 2) d = .int u := fun d => by rw [getD_mapA (by omega) d 0, hg0]
                  have hd1 : ∀ d, ((flS (s8 k T)).map AV.int).getD (j * 2 + 1) d = .int w := fun d => by rw [getD_mapA (by omega) d 0, hg1]
                  by_cases e1 : 0 < u
                  · have d1 : decide (0 < u) = true := decide_eq_true e1
                    rw [if_neg (by omega)] at hfj1
                    repeat (first | apply Wp.seq | apply Wp.block | (apply Run.calm; exact rfl; (simp only [push_cast, seval, hgr, hgl, hgk, hgm, hsm, hB, hb0, hbj, hs0, hsj, hap, ↓hone, ↓hfl, hdf, hki, lnA, List.length_append, Nat.mul_one, hknl, hWl, hWt, hd0, hd1, d1, Bool.true_or] <;> exact evT); ((try simp only [push_cast, seval, hgr, hgl, hgk, hgm, hsm, hB, hb0, hbj, hs0, hsj, hap, ↓hone, ↓hfl, hdf, hki, lnA, List.length_append, Nat.mul_one, hknl, hWl, hWt, hd0, hd1, d1, Bool.true_or]) <;> exact sT)) | (apply Run.nil; dsimp only [sQ, tQ, bQ]) | (refine Wp.rn ?_) | (apply Wp.skip; dsimp only [sQ, tQ, bQ]) | (apply Wp.exit; dsimp only [sQ, tQ, bQ]; simp only [reduceIte]))
                    (refine Wp.rnD 19 ?_; apply exAb; (((repeat (apply Abn.next; (simp only [push_cast, seval, hgr, hgl, hgk, hgm, hsm, hB, hb0, hbj, hs0, hsj, hap, ↓hone, ↓hfl, hdf, hki, lnA, List.length_append, Nat.mul_one, hknl, hWl, hWt, hd0, hd1, d1, Bool.true_or] <;> exact evT); ((try simp only [push_cast, seval, hgr, hgl, hgk, hgm, hsm, hB, hb0, hbj, hs0, hsj, hap, ↓hone, ↓hfl, hdf, hki, lnA, List.length_append, Nat.mul_one, hknl, hWl, hWt, hd0, hd1, d1, Bool.true_or]) <;> exact sT)))); exact Abn.nil))
                    repeat (first | apply Wp.seq | apply Wp.block | (apply Run.next; (simp only [push_cast, seval, hgr, hgl, hgk, hgm, hsm, hB, hb0, hbj, hs0, hsj, hap, ↓hone, ↓hfl, hdf, hki, lnA, List.length_append, Nat.mul_one, hknl, hWl, hWt, hd0, hd1, d1, Bool.true_or] <;> exact evT); ((try simp only [push_cast, seval, hgr, hgl, hgk, hgm, hsm, hB, hb0, hbj, hs0, hsj, hap, ↓hone, ↓hfl, hdf, hki, lnA, List.length_append, Nat.mul_one, hknl, hWl, hWt, hd0, hd1, d1, Bool.true_or]) <;> exact sT)) | (apply Run.nil; dsimp only [sQ, tQ, bQ]) | (refine Wp.rn ?_) | (apply Wp.skip; dsimp only [sQ, tQ, bQ]) | (apply Wp.exit; dsimp only [sQ, tQ, bQ]; simp only [reduceIte]) | (apply Run.gtrue; (simp only [push_cast, seval, hgr, hgl, hgk, hgm, hsm, hB, hb0, hbj, hs0, hsj, hap, ↓hone, ↓hfl, hdf, hki, lnA, List.length_append, Nat.mul_one, hknl, hWl, hWt, hd0, hd1, d1, Bool.true_or] <;> exact evT); (simp only [push_cast, seval, hgr, hgl, hgk, hgm, hsm, hB, hb0, hbj, hs0, hsj, hap, ↓hone, ↓hfl, hdf, hki, lnA, List.length_append, Nat.mul_one, hknl, hWl, hWt, hd0, hd1, d1, Bool.true_or] <;> exact evT)) | (apply Run.gfalse (.bool false); (simp only [push_cast, seval, hgr, hgl, hgk, hgm, hsm, hB, hb0, hbj, hs0, hsj, hap, ↓hone, ↓hfl, hdf, hki, lnA, List.length_append, Nat.mul_one, hknl, hWl, hWt, hd0, hd1, d1, Bool.true_or] <;> exact evT); dsimp only [S.put, optG]) | (apply Wp.condT; (simp only [push_cast, seval, hgr, hgl, hgk, hgm, hsm, hB, hb0, hbj, hs0, hsj, hap, ↓hone, ↓hfl, hdf, hki, lnA, List.length_append, Nat.mul_one, hknl, hWl, hWt, hd0, hd1, d1, Bool.true_or] <;> exact evT)) | (apply Wp.condF; (simp only [push_cast, seval, hgr, hgl, hgk, hgm, hsm, hB, hb0, hbj, hs0, hsj, hap, ↓hone, ↓hfl, hdf, hki, lnA, List.length_append, Nat.mul_one, hknl, hWl, hWt, hd0, hd1, d1, Bool.true_or] <;> exact evT)))
                    refine ⟨(j + 1, mp1, (v, kd), J), ?_, ⟨by simp only; omega, hj2, hj3, hj4⟩, by simp only; omega⟩
                    simp only [hf1, hfj1, Nat.add_zero]
                    (refine Le.of ?_ ?_ rfl rfl <;> (try simp only [push_cast, seval, hgr, hgl, hgk, hgm, hsm, hB, hb0, hbj, hs0, hsj, hap, ↓hone, ↓hfl, hdf, hki, lnA, List.length_append, Nat.mul_one, hknl, hWl, hWt, hd0, hd1, d1, Bool.true_or]) <;> (try (with_reducible rfl)))
                  · have d1 : decide (0 < u) = false := decide_eq_false e1
                    by_cases e2 : life < w + x.uses
                    · have d2 : decide (life < w + x.uses) = true := decide_eq_true e2
                      rw [if_neg (by omega)] at hfj1
                      repeat (first | apply Wp.seq | apply Wp.block | (apply Run.calm; exact rfl; (simp only [push_cast, seval, hgr, hgl, hgk, hgm, hsm, hB, hb0, hbj, hs0, hsj, hap, ↓hone, ↓hfl, hdf, hki, lnA, List.length_append, Nat.mul_one, hknl, hWl, hWt, hd0, hd1, d1, d2, Bool.false_or] <;> exact evT); ((try simp only [push_cast, seval, hgr, hgl, hgk, hgm, hsm, hB, hb0, hbj, hs0, hsj, hap, ↓hone, ↓hfl, hdf, hki, lnA, List.length_append, Nat.mul_one, hknl, hWl, hWt, hd0, hd1, d1, d2, Bool.false_or]) <;> exact sT)) | (apply Run.nil; dsimp only [sQ, tQ, bQ]) | (refine Wp.rn ?_) | (apply Wp.skip; dsimp only [sQ, tQ, bQ]) | (apply Wp.exit; dsimp only [sQ, tQ, bQ]; simp only [reduceIte]))
                      (refine Wp.rnD 19 ?_; apply exAb; (((repeat (apply Abn.next; (simp only [push_cast, seval, hgr, hgl, hgk, hgm, hsm, hB, hb0, hbj, hs0, hsj, hap, ↓hone, ↓hfl, hdf, hki, lnA, List.length_append, Nat.mul_one, hknl, hWl, hWt, hd0, hd1, d1, d2, Bool.false_or] <;> exact evT); ((try simp only [push_cast, seval, hgr, hgl, hgk, hgm, hsm, hB, hb0, hbj, hs0, hsj, hap, ↓hone, ↓hfl, hdf, hki, lnA, List.length_append, Nat.mul_one, hknl, hWl, hWt, hd0, hd1, d1, d2, Bool.false_or]) <;> exact sT)))); exact Abn.nil))
                      repeat (first | apply Wp.seq | apply Wp.block | (apply Run.next; (simp only [push_cast, seval, hgr, hgl, hgk, hgm, hsm, hB, hb0, hbj, hs0, hsj, hap, ↓hone, ↓hfl, hdf, hki, lnA, List.length_append, Nat.mul_one, hknl, hWl, hWt, hd0, hd1, d1, d2, Bool.false_or] <;> exact evT); ((try simp only [push_cast, seval, hgr, hgl, hgk, hgm, hsm, hB, hb0, hbj, hs0, hsj, hap, ↓hone, ↓hfl, hdf, hki, lnA, List.length_append, Nat.mul_one, hknl, hWl, hWt, hd0, hd1, d1, d2, Bool.false_or]) <;> exact sT)) | (apply Run.nil; dsimp only [sQ, tQ, bQ]) | (refine Wp.rn ?_) | (apply Wp.skip; dsimp only [sQ, tQ, bQ]) | (apply Wp.exit; dsimp only [sQ, tQ, bQ]; simp only [reduceIte]) | (apply Run.gtrue; (simp only [push_cast, seval, hgr, hgl, hgk, hgm, hsm, hB, hb0, hbj, hs0, hsj, hap, ↓hone, ↓hfl, hdf, hki, lnA, List.length_append, Nat.mul_one, hknl, hWl, hWt, hd0, hd1, d1, d2, Bool.false_or] <;> exact evT); (simp only [push_cast, seval, hgr, hgl, hgk, hgm, hsm, hB, hb0, hbj, hs0, hsj, hap, ↓hone, ↓hfl, hdf, hki, lnA, List.length_append, Nat.mul_one, hknl, hWl, hWt, hd0, hd1, d1, d2, Bool.false_or] <;> exact evT)) | (apply Run.gfalse (.bool false); (simp only [push_cast, seval, hgr, hgl, hgk, hgm, hsm, hB, hb0, hbj, hs0, hsj, hap, ↓hone, ↓hfl, hdf, hki, lnA, List.length_append, Nat.mul_one, hknl, hWl, hWt, hd0, hd1, d1, d2, Bool.false_or] <;> exact evT); dsimp only [S.put, optG]) | (apply Wp.condT; (simp only [push_cast, seval, hgr, hgl, hgk, hgm, hsm, hB, hb0, hbj, hs0, hsj, hap, ↓hone, ↓hfl, hdf, hki, lnA, List.length_append, Nat.mul_one, hknl, hWl, hWt, hd0, hd1, d1, d2, Bool.false_or] <;> exact evT)) | (apply Wp.condF; (simp only [push_cast, seval, hgr, hgl, hgk, hgm, hsm, hB, hb0, hbj, hs0, hsj, hap, ↓hone, ↓hfl, hdf, hki, lnA, List.length_append, Nat.mul_one, hknl, hWl, hWt, hd0, hd1, d1, d2, Bool.false_or] <;> exact evT)))
                      refine ⟨(j + 1, mp1, (v, kd), J), ?_, ⟨by simp only; omega, hj2, hj3, hj4⟩, by simp only; omega⟩
                      simp only [hf1, hfj1, Nat.add_zero]
                      (refine Le.of ?_ ?_ rfl rfl <;> (try simp only [push_cast, seval, hgr, hgl, hgk, hgm, hsm, hB, hb0, hbj, hs0, hsj, hap, ↓hone, ↓hfl, hdf, hki, lnA, List.length_append, Nat.mul_one, hknl, hWl, hWt, hd0, hd1, d1, d2, Bool.false_or]) <;> (try (with_reducible rfl)))
                    · have d2 : decide (life < w + x.uses) = false := decide_eq_false e2
                      rw [if_pos (by omega)] at hfj1
                      repeat (first | apply Wp.seq | apply Wp.block | (apply Run.calm; exact rfl; (simp only [push_cast, seval, hgr, hgl, hgk, hgm, hsm, hB, hb0, hbj, hs0, hsj, hap, ↓hone, ↓hfl, hdf, hki, lnA, List.length_append, Nat.mul_one, hknl, hWl, hWt, hd0, hd1, d1, d2, Bool.false_or] <;> exact evT); ((try simp only [push_cast, seval, hgr, hgl, hgk, hgm, hsm, hB, hb0, hbj, hs0, hsj, hap, ↓hone, ↓hfl, hdf, hki, lnA, List.length_append, Nat.mul_one, hknl, hWl, hWt, hd0, hd1, d1, d2, Bool.false_or]) <;> exact sT)) | (apply Run.nil; dsimp only [sQ, tQ, bQ]) | (refine Wp.rn ?_) | (apply Wp.skip; dsimp only [sQ, tQ, bQ]) | (apply Wp.exit; dsimp only [sQ, tQ, bQ]; simp only [reduceIte]))
                      (refine Wp.rnD 19 ?_; apply exAb; (((repeat (apply Abn.next; (simp only [push_cast, seval, hgr, hgl, hgk, hgm, hsm, hB, hb0, hbj, hs0, hsj, hap, ↓hone, ↓hfl, hdf, hki, lnA, List.length_append, Nat.mul_one, hknl, hWl, hWt, hd0, hd1, d1, d2, Bool.false_or] <;> exact evT); ((try simp only [push_cast, seval, hgr, hgl, hgk, hgm, hsm, hB, hb0, hbj, hs0, hsj, hap, ↓hone, ↓hfl, hdf, hki, lnA, List.length_append, Nat.mul_one, hknl, hWl, hWt, hd0, hd1, d1, d2, Bool.false_or]) <;> exact sT)))); exact Abn.nil))
                      repeat (first | apply Wp.seq | apply Wp.block | (apply Run.calm; exact rfl; (simp only [push_cast, seval, hgr, hgl, hgk, hgm, hsm, hB, hb0, hbj, hs0, hsj, hap, ↓hone, ↓hfl, hdf, hki, lnA, List.length_append, Nat.mul_one, hknl, hWl, hWt, hd0, hd1, d1, d2, Bool.false_or] <;> exact evT); ((try simp only [push_cast, seval, hgr, hgl, hgk, hgm, hsm, hB, hb0, hbj, hs0, hsj, hap, ↓hone, ↓hfl, hdf, hki, lnA, List.length_append, Nat.mul_one, hknl, hWl, hWt, hd0, hd1, d1, d2, Bool.false_or]) <;> exact sT)) | (apply Run.nil; dsimp only [sQ, tQ, bQ]) | (refine Wp.rn ?_) | (apply Wp.skip; dsimp only [sQ, tQ, bQ]) | (apply Wp.exit; dsimp only [sQ, tQ, bQ]; simp only [reduceIte]))
                      (apply Wp.cond; (simp only [push_cast, seval, hgr, hgl, hgk, hgm, hsm, hB, hb0, hbj, hs0, hsj, hap, ↓hone, ↓hfl, hdf, hki, lnA, List.length_append, Nat.mul_one, hknl, hWl, hWt, hd0, hd1, d1, d2, Bool.false_or] <;> exact evT))
                      · intro h
                        cases h
                      · intro _
                        have hnx : List.map AV.int (List.take (j * 2) (flS (s8 k T))) ++ [AV.int x.to, AV.val (Value.int IntKind.i64 (w + x.uses))] ++ List.map AV.int (List.drop (j * 2 + 2) (flS (s8 k T))) = List.map AV.int (flS (s8 k (T.set j (x.to, w + x.uses)))) := by
                          rw [← s8_set (by omega), ← flS_set x.to (w + x.uses) (by omega)]
                          simp
                        have hTl : (T.set j (x.to, w + x.uses)).length = k := by rw [List.length_set, hT1]
                        have hNl := flS_len (s8 k (T.set j (x.to, w + x.uses)))
                        rw [s8_len hTl (by omega)] at hNl
                        have hNt : (flS (s8 k (T.set j (x.to, w + x.uses)))).take 16 = flS (s8 k (T.set j (x.to, w + x.uses))) := List.take_of_length_le (by omega)
                        have hcall := ih (i + 1) ((i : Int) + 1) (T.set j (x.to, w + x.uses)) (G ++ (⟨2, .row 16 [.agg ((flS (s8 k T)).map AV.int)]⟩ :: ⟨0, .row 5 [lnA x]⟩ :: ⟨v + 1, .row 16 [.agg ((flS (s8 k (T.set j (x.to, w + x.uses)))).map AV.int)]⟩ :: J)) mp1 hxs' (by simp at hi; omega) (by omega) hTl (fun p hp => by
                          rcases List.mem_or_eq_of_mem_set hp with q | q
                          · exact hTs p q
                          · subst q; exact ⟨by simp only; omega, by simp only; omega⟩) hj4
                        rw [← Mm_app] at hcall
                        generalize hgA : gS Ln.fr Ln.to Ln.uses life xs (T.set j (x.to, w + x.uses)) = gA at *
                        repeat (first | apply Wp.seq | apply Wp.block | (apply Run.calm; exact rfl; (simp only [push_cast, seval, hgr, hgl, hgk, hgm, hsm, hB, hb0, hbj, hs0, hsj, hap, ↓hone, ↓hfl, hdf, hki, lnA, List.length_append, Nat.mul_one, hknl, hWl, hWt, hd0, hd1, d1, d2, Bool.false_or, hnx, hNl, hNt] <;> exact evT); ((try simp only [push_cast, seval, hgr, hgl, hgk, hgm, hsm, hB, hb0, hbj, hs0, hsj, hap, ↓hone, ↓hfl, hdf, hki, lnA, List.length_append, Nat.mul_one, hknl, hWl, hWt, hd0, hd1, d1, d2, Bool.false_or, hnx, hNl, hNt]) <;> exact sT)) | (apply Run.nil; dsimp only [sQ, tQ, bQ]) | (refine Wp.rn ?_) | (apply Wp.skip; dsimp only [sQ, tQ, bQ]) | (apply Wp.exit; dsimp only [sQ, tQ, bQ]; simp only [reduceIte]))
                        (apply Run.alcAt (B + 2); (simp only [push_cast, seval, hgr, hgl, hgk, hgm, hsm, hB, hb0, hbj, hs0, hsj, hap, ↓hone, ↓hfl, hdf, hki, lnA, List.length_append, Nat.mul_one, hknl, hWl, hWt, hd0, hd1, d1, d2, Bool.false_or, hnx, hNl, hNt] <;> exact evT); (focus ((try simp only [push_cast, seval, hgr, hgl, hgk, hgm, hsm, hB, hb0, hbj, hs0, hsj, hap, ↓hone, ↓hfl, hdf, hki, lnA, List.length_append, Nat.mul_one, hknl, hWl, hWt, hd0, hd1, d1, d2, Bool.false_or, hnx, hNl, hNt]) <;> exact sT)); (simp only [push_cast, seval, hgr, hgl, hgk, hgm, hsm, hB, hb0, hbj, hs0, hsj, hap, ↓hone, ↓hfl, hdf, hki, lnA, List.length_append, Nat.mul_one, hknl, hWl, hWt, hd0, hd1, d1, d2, Bool.false_or, hnx, hNl, hNt] <;> exact evT); (try simp only [push_cast, seval, hgr, hgl, hgk, hgm, hsm, hB, hb0, hbj, hs0, hsj, hap, ↓hone, ↓hfl, hdf, hki, lnA, List.length_append, Nat.mul_one, hknl, hWl, hWt, hd0, hd1, d1, d2, Bool.false_or, hnx, hNl, hNt]))
                        repeat (first | apply Wp.seq | apply Wp.block | (apply Run.next; (simp only [push_cast, seval, hgr, hgl, hgk, hgm, hsm, hB, hb0, hbj, hs0, hsj, hap, ↓hone, ↓hfl, hdf, hki, lnA, List.length_append, Nat.mul_one, hknl, hWl, hWt, hd0, hd1, d1, d2, Bool.false_or, hnx, hNl, hNt] <;> exact evT); ((try simp only [push_cast, seval, hgr, hgl, hgk, hgm, hsm, hB, hb0, hbj, hs0, hsj, hap, ↓hone, ↓hfl, hdf, hki, lnA, List.length_append, Nat.mul_one, hknl, hWl, hWt, hd0, hd1, d1, d2, Bool.false_or, hnx, hNl, hNt]) <;> exact sT)) | (apply Run.nil; dsimp only [sQ, tQ, bQ]) | (refine Wp.rn ?_) | (apply Wp.skip; dsimp only [sQ, tQ, bQ]) | (apply Wp.exit; dsimp only [sQ, tQ, bQ]; simp only [reduceIte]))
                        (apply Wp.runE 12 12 mixed; (dsimp only [List.map] <;> exact rfl); exact rfl; kernel_rfl; ((repeat (apply Abe.next; exact rfl; (simp only [push_cast, seval, hgr, hgl, hgk, hgm, hsm, hB, hb0, hbj, hs0, hsj, hap, ↓hone, ↓hfl, hdf, hki, lnA, List.length_append, Nat.mul_one, hknl, hWl, hWt, hd0, hd1, d1, d2, Bool.false_or, hnx, hNl, hNt] <;> exact evT); ((try simp only [push_cast, seval, hgr, hgl, hgk, hgm, hsm, hB, hb0, hbj, hs0, hsj, hap, ↓hone, ↓hfl, hdf, hki, lnA, List.length_append, Nat.mul_one, hknl, hWl, hWt, hd0, hd1, d1, d2, Bool.false_or, hnx, hNl, hNt]) <;> exact sT))); (apply Abe.eff; exact rfl; (simp only [push_cast, seval, hgr, hgl, hgk, hgm, hsm, hB, hb0, hbj, hs0, hsj, hap, ↓hone, ↓hfl, hdf, hki, lnA, List.length_append, Nat.mul_one, hknl, hWl, hWt, hd0, hd1, d1, d2, Bool.false_or, hnx, hNl, hNt] <;> exact evT); ((try simp only [push_cast, seval, hgr, hgl, hgk, hgm, hsm, hB, hb0, hbj, hs0, hsj, hap, ↓hone, ↓hfl, hdf, hki, lnA, List.length_append, Nat.mul_one, hknl, hWl, hWt, hd0, hd1, d1, d2, Bool.false_or, hnx, hNl, hNt]) <;> exact sT); (try dsimp only [putA])); exact Abe.nil))
                        repeat (first | apply Wp.seq | apply Wp.block | (apply Run.next; (simp only [push_cast, seval, hgr, hgl, hgk, hgm, hsm, hB, hb0, hbj, hs0, hsj, hap, ↓hone, ↓hfl, hdf, hki, lnA, List.length_append, Nat.mul_one, hknl, hWl, hWt, hd0, hd1, d1, d2, Bool.false_or, hnx, hNl, hNt] <;> exact evT); ((try simp only [push_cast, seval, hgr, hgl, hgk, hgm, hsm, hB, hb0, hbj, hs0, hsj, hap, ↓hone, ↓hfl, hdf, hki, lnA, List.length_append, Nat.mul_one, hknl, hWl, hWt, hd0, hd1, d1, d2, Bool.false_or, hnx, hNl, hNt]) <;> exact sT)) | (apply Run.nil; dsimp only [sQ, tQ, bQ]) | (refine Wp.rn ?_) | (apply Wp.skip; dsimp only [sQ, tQ, bQ]) | (apply Wp.exit; dsimp only [sQ, tQ, bQ]; simp only [reduceIte]))
                        apply Run.spec (he := Enters.of Try.func80 rfl rfl) (hc := hcall)
                        · exact rfl
                        · exact rfl
                        · (simp only [push_cast, seval, hgr, hgl, hgk, hgm, hsm, hB, hb0, hbj, hs0, hsj, hap, ↓hone, ↓hfl, hdf, hki, lnA, List.length_append, Nat.mul_one, hknl, hWl, hWt, hd0, hd1, d1, d2, Bool.false_or, hnx, hNl, hNt] <;> exact evT)
                        · rintro _ m2 ⟨rfl, mp2, J2, g1, g2, hm2⟩
                          rw [← Mm_app, List.append_assoc] at hm2
                          simp only [List.cons_append, List.nil_append] at hm2
                          subst hm2
                          dsimp only [S.put, optG]
                          have hmin : min ((sgN (j + 1) f : Nat) : Int) 1099511627776 = ((sgN (j + 1) f : Nat) : Int) := by omega
                          have hcast : ((sgN j f : Int) + (gA : Int)) = ((sgN (j + 1) f : Nat) : Int) := by rw [hf1, hfj1]; omega
                          repeat (first | apply Wp.seq | apply Wp.block | (apply Run.next; (simp only [push_cast, seval, hgr, hgl, hgk, hgm, hsm, hB, hb0, hbj, hs0, hsj, hap, ↓hone, ↓hfl, hdf, hki, lnA, List.length_append, Nat.mul_one, hknl, hWl, hWt, hd0, hd1, d1, d2, Bool.false_or, hnx, hNl, hNt, hcast, hmin] <;> exact evT); ((try simp only [push_cast, seval, hgr, hgl, hgk, hgm, hsm, hB, hb0, hbj, hs0, hsj, hap, ↓hone, ↓hfl, hdf, hki, lnA, List.length_append, Nat.mul_one, hknl, hWl, hWt, hd0, hd1, d1, d2, Bool.false_or, hnx, hNl, hNt, hcast, hmin]) <;> exact sT)) | (apply Run.nil; dsimp only [sQ, tQ, bQ]) | (refine Wp.rn ?_) | (apply Wp.skip; dsimp only [sQ, tQ, bQ]) | (apply Wp.exit; dsimp only [sQ, tQ, bQ]; simp only [reduceIte]))
                          refine ⟨(j + 1, mp2, (v + 1, .row 16 [.agg ((flS (s8 k (T.set j (x.to, w + x.uses)))).map AV.int)]), J ++ J2), ?_, ⟨by simp only; omega, by simp only; rw [g1 i (by omega)]; exact hj2, fun j' hj' => by simp only; rw [g1 j' (by omega)]; exact hj3 j' hj', g2⟩, by simp only; omega⟩
                          (refine Le.of ?_ ?_ rfl rfl <;> (try simp only [push_cast, seval, hgr, hgl, hgk, hgm, hsm, hB, hb0, hbj, hs0, hsj, hap, ↓hone, ↓hfl, hdf, hki, lnA, List.length_append, Nat.mul_one, hknl, hWl, hWt, hd0, hd1, d1, d2, Bool.false_or, hnx, hNl, hNt, hcast, hmin]) <;> (try (with_reducible rfl)))
                · intro hc
                  simp only [decide_eq_false_iff_not, Int.ofNat_lt] at hc
                  obtain rfl : j = k := by omega
                  rw [← hgc2]
                  have hus := fun L => upM_same mp1 i L
                  generalize hL1 : updL L0 (kyV (flS (s8 j T))) (.int (gS Ln.fr Ln.to Ln.uses life (x :: xs) s : Nat)) = L1 at hup
                  repeat (first | apply Wp.seq | apply Wp.block | (apply Run.next; (simp only [push_cast, seval, hgr, hgl, hgk, hgm, hsm, hB, hb0, hbj, hs0, hsj, hap, ↓hone, ↓hfl, hdf, hki, lnA, List.length_append, Nat.mul_one, hknl, hWl, hWt, hkv, hek, hgb, hkB, hgl2, hj2, hf, hL1, hus] <;> exact evT); ((try simp only [push_cast, seval, hgr, hgl, hgk, hgm, hsm, hB, hb0, hbj, hs0, hsj, hap, ↓hone, ↓hfl, hdf, hki, lnA, List.length_append, Nat.mul_one, hknl, hWl, hWt, hkv, hek, hgb, hkB, hgl2, hj2, hf, hL1, hus]) <;> exact sT)) | (apply Run.nil; dsimp only [sQ, tQ, bQ]) | (refine Wp.rn ?_) | (apply Wp.skip; dsimp only [sQ, tQ, bQ]) | (apply Wp.exit; dsimp only [sQ, tQ, bQ]; simp only [reduceIte]) | (apply Run.gtrue; (simp only [push_cast, seval, hgr, hgl, hgk, hgm, hsm, hB, hb0, hbj, hs0, hsj, hap, ↓hone, ↓hfl, hdf, hki, lnA, List.length_append, Nat.mul_one, hknl, hWl, hWt, hkv, hek, hgb, hkB, hgl2, hj2, hf, hL1, hus] <;> exact evT); (simp only [push_cast, seval, hgr, hgl, hgk, hgm, hsm, hB, hb0, hbj, hs0, hsj, hap, ↓hone, ↓hfl, hdf, hki, lnA, List.length_append, Nat.mul_one, hknl, hWl, hWt, hkv, hek, hgb, hkB, hgl2, hj2, hf, hL1, hus] <;> exact evT)) | (apply Run.gfalse (.bool false); (simp only [push_cast, seval, hgr, hgl, hgk, hgm, hsm, hB, hb0, hbj, hs0, hsj, hap, ↓hone, ↓hfl, hdf, hki, lnA, List.length_append, Nat.mul_one, hknl, hWl, hWt, hkv, hek, hgb, hkB, hgl2, hj2, hf, hL1, hus] <;> exact evT); dsimp only [S.put, optG]) | (apply Wp.condT; (simp only [push_cast, seval, hgr, hgl, hgk, hgm, hsm, hB, hb0, hbj, hs0, hsj, hap, ↓hone, ↓hfl, hdf, hki, lnA, List.length_append, Nat.mul_one, hknl, hWl, hWt, hkv, hek, hgb, hkB, hgl2, hj2, hf, hL1, hus] <;> exact evT)) | (apply Wp.condF; (simp only [push_cast, seval, hgr, hgl, hgk, hgm, hsm, hB, hb0, hbj, hs0, hsj, hap, ↓hone, ↓hfl, hdf, hki, lnA, List.length_append, Nat.mul_one, hknl, hWl, hWt, hkv, hek, hgb, hkB, hgl2, hj2, hf, hL1, hus] <;> exact evT)))
                  (apply Wp.runE 9 9 mixed; (dsimp only [List.map] <;> exact rfl); exact rfl; kernel_rfl; ((repeat (apply Abe.next; exact rfl; (simp only [push_cast, seval, hgr, hgl, hgk, hgm, hsm, hB, hb0, hbj, hs0, hsj, hap, ↓hone, ↓hfl, hdf, hki, lnA, List.length_append, Nat.mul_one, hknl, hWl, hWt, hkv, hek, hgb, hkB, hgl2, hj2, hf, hL1, hus] <;> exact evT); ((try simp only [push_cast, seval, hgr, hgl, hgk, hgm, hsm, hB, hb0, hbj, hs0, hsj, hap, ↓hone, ↓hfl, hdf, hki, lnA, List.length_append, Nat.mul_one, hknl, hWl, hWt, hkv, hek, hgb, hkB, hgl2, hj2, hf, hL1, hus]) <;> exact sT))); (apply Abe.eff; exact rfl; (simp only [push_cast, seval, hgr, hgl, hgk, hgm, hsm, hB, hb0, hbj, hs0, hsj, hap, ↓hone, ↓hfl, hdf, hki, lnA, List.length_append, Nat.mul_one, hknl, hWl, hWt, hkv, hek, hgb, hkB, hgl2, hj2, hf, hL1, hus] <;> exact evT); ((try simp only [push_cast, seval, hgr, hgl, hgk, hgm, hsm, hB, hb0, hbj, hs0, hsj, hap, ↓hone, ↓hfl, hdf, hki, lnA, List.length_append, Nat.mul_one, hknl, hWl, hWt, hkv, hek, hgb, hkB, hgl2, hj2, hf, hL1, hus]) <;> exact sT); (try dsimp only [putA])); exact Abe.nil))
                  repeat (first | apply Wp.seq | apply Wp.block | (apply Run.next; (simp only [push_cast, seval, hgr, hgl, hgk, hgm, hsm, hB, hb0, hbj, hs0, hsj, hap, ↓hone, ↓hfl, hdf, hki, lnA, List.length_append, Nat.mul_one, hknl, hWl, hWt, hkv, hek, hgb, hkB, hgl2, hj2, hf, hL1, hus] <;> exact evT); ((try simp only [push_cast, seval, hgr, hgl, hgk, hgm, hsm, hB, hb0, hbj, hs0, hsj, hap, ↓hone, ↓hfl, hdf, hki, lnA, List.length_append, Nat.mul_one, hknl, hWl, hWt, hkv, hek, hgb, hkB, hgl2, hj2, hf, hL1, hus]) <;> exact sT)) | (apply Run.nil; dsimp only [sQ, tQ, bQ]) | (refine Wp.rn ?_) | (apply Wp.skip; dsimp only [sQ, tQ, bQ]) | (apply Wp.exit; dsimp only [sQ, tQ, bQ]; simp only [reduceIte]) | (apply Run.gtrue; (simp only [push_cast, seval, hgr, hgl, hgk, hgm, hsm, hB, hb0, hbj, hs0, hsj, hap, ↓hone, ↓hfl, hdf, hki, lnA, List.length_append, Nat.mul_one, hknl, hWl, hWt, hkv, hek, hgb, hkB, hgl2, hj2, hf, hL1, hus] <;> exact evT); (simp only [push_cast, seval, hgr, hgl, hgk, hgm, hsm, hB, hb0, hbj, hs0, hsj, hap, ↓hone, ↓hfl, hdf, hki, lnA, List.length_append, Nat.mul_one, hknl, hWl, hWt, hkv, hek, hgb, hkB, hgl2, hj2, hf, hL1, hus] <;> exact evT)) | (apply Run.gfalse (.bool false); (simp only [push_cast, seval, hgr, hgl, hgk, hgm, hsm, hB, hb0, hbj, hs0, hsj, hap, ↓hone, ↓hfl, hdf, hki, lnA, List.length_append, Nat.mul_one, hknl, hWl, hWt, hkv, hek, hgb, hkB, hgl2, hj2, hf, hL1, hus] <;> exact evT); dsimp only [S.put, optG]) | (apply Wp.condT; (simp only [push_cast, seval, hgr, hgl, hgk, hgm, hsm, hB, hb0, hbj, hs0, hsj, hap, ↓hone, ↓hfl, hdf, hki, lnA, List.length_append, Nat.mul_one, hknl, hWl, hWt, hkv, hek, hgb, hkB, hgl2, hj2, hf, hL1, hus] <;> exact evT)) | (apply Wp.condF; (simp only [push_cast, seval, hgr, hgl, hgk, hgm, hsm, hB, hb0, hbj, hs0, hsj, hap, ↓hone, ↓hfl, hdf, hki, lnA, List.length_append, Nat.mul_one, hknl, hWl, hWt, hkv, hek, hgb, hkB, hgl2, hj2, hf, hL1, hus] <;> exact evT)))
                  (apply Wp.ret; (try dsimp only [sQ, tQ, bQ]); apply leaveA; exact rfl; (simp only [push_cast, seval, hgr, hgl, hgk, hgm, hsm, hB, hb0, hbj, hs0, hsj, hap, ↓hone, ↓hfl, hdf, hki, lnA, List.length_append, Nat.mul_one, hknl, hWl, hWt, hkv, hek, hgb, hkB, hgl2, hj2, hf, hL1, hus] <;> exact evT); (focus (first | (simp only [push_cast, seval, hgr, hgl, hgk, hgm, hsm, hB, hb0, hbj, hs0, hsj, hap, ↓hone, ↓hfl, hdf, hki, lnA, List.length_append, Nat.mul_one, hknl, hWl, hWt, hkv, hek, hgb, hkB, hgl2, hj2, hf, hL1, hus]; done) | trivial | (simp only [push_cast, seval, hgr, hgl, hgk, hgm, hsm, hB, hb0, hbj, hs0, hsj, hap, ↓hone, ↓hfl, hdf, hki, lnA, List.length_append, Nat.mul_one, hknl, hWl, hWt, hkv, hek, hgb, hkB, hgl2, hj2, hf, hL1, hus]; trivial) | (simp; done))); (try simp only [push_cast, seval, hgr, hgl, hgk, hgm, hsm, hB, hb0, hbj, hs0, hsj, hap, ↓hone, ↓hfl, hdf, hki, lnA, List.length_append, Nat.mul_one, hknl, hWl, hWt, hkv, hek, hgb, hkB, hgl2, hj2, hf, hL1, hus]))
                  refine ⟨upM mp1 i L1, _, fun j' hj' => by rw [upM_ne mp1 L1 (by omega)]; exact hj3 j' hj', fun j' h1 h2 => ?_, rfl⟩
                  by_cases hji : j' = i
                  · subst hji
                    rw [hus L1, hxs]
                    exact hup
                  · rw [upM_ne mp1 L1 hji]; exact hj4 j' (by omega) h2
end Go.Proofs.Try
set_option maxHeartbeats 8000000
set_option maxRecDepth 20000
namespace Go.Proofs.Try
open Go.Vg

/-! Count: kind by kind -/
def knB (B q : Nat) : List AV := (List.range q).map fun i => .omap (B + (5 + i)) 1
theorem knB_succ (B q : Nat) : knB B (q + 1) = knB B q ++ [.omap (B + (5 + q)) 1] := by simp [knB, List.range_succ]
theorem knB_len (B q : Nat) : (knB B q).length = q := by simp [knB]
theorem knB_knL (B q : Nat) : knB B q = knL (B + 5) q := by
  unfold knB knL
  refine List.map_congr_left fun i _ => ?_
  rw [Nat.add_assoc]
theorem kdsL_succ {ls : List Ln} {i : Nat} (h : i < ls.length) (k : Nat) : kdsL (ls.take (i + 1)) k = if (ls.getD i ln0).kind = (k : Int) then kdsL (ls.take i) k ++ [ls.getD i ln0] else kdsL (ls.take i) k := by
  have e : ls.take (i + 1) = ls.take i ++ [ls.getD i ln0] := by rw [List.take_add_one]; simp [h]
  unfold kdsL
  rw [e, List.filter_append]
  generalize ls.getD i ln0 = x
  by_cases c : x.kind = (k : Int)
  · rw [if_pos c]; simp [c]
  · rw [if_neg c]; simp [c]
theorem kdsL_le (ls : List Ln) (i k : Nat) : (kdsL (ls.take i) k).length ≤ (kdsL ls k).length := by
  have h : (kdsL (ls.take i) k).Sublist (kdsL ls k) := (List.take_sublist i ls).filter _
  exact h.length_le
theorem kdsL_len (ls : List Ln) (k : Nat) : (kdsL ls k).length ≤ ls.length := List.length_filter_le _ _
theorem asc_of {S : List Ln} (h : SortA Ln.fr S) : Asc Ln.fr S := by
  induction S with
  | nil => trivial
  | cons x S ih =>
    unfold SortA at h
    rw [List.pairwise_cons] at h
    exact ⟨h.1, ih h.2⟩
theorem cn_kindG {ks : List St} {ls : List Ln} (hv : SV ks ls) {k : Nat} {sls : List Ln} (hp : sls.Perm (kdsL ls k)) (ha : Asc Ln.fr sls) :
    gS Ln.fr Ln.to Ln.uses (ks.getD k st0).life sls (List.replicate (itK ks k) (0, 0)) = cnA ks ls k := by
  rw [← cn_kind hv (so := id) (fun _ => List.Perm.refl _) hp ha, cP_gS (so := id) (fun _ => List.Perm.refl _) sls _ (fun l hl => ?_) ha]
  have := hp.mem_iff.1 hl
  simp only [kdsL, List.mem_filter] at this
  have := hv.mem this.1
  exact ⟨this.2.1.1, this.2.1.2.1, this.2.2.1⟩
theorem pd_zero {ks : List St} {ls : List Ln} {k : Nat} (h : cnA ks ls k = 0) : ∀ {n : Nat}, k < n → pdK ks ls n = 0
  | 0, hk => by omega
  | n + 1, hk => by
    rw [pdK]
    by_cases e : k = n
    · subst e; rw [h, Nat.mul_zero]
    · rw [pd_zero h (by omega), Nat.zero_mul]
theorem get5 {a0 a1 a2 a3 a4 : Ent} {l : Mem} {j : Nat} : (a0 :: a1 :: a2 :: a3 :: a4 :: l)[5 + j]? = l[j]? := by
  rw [show 5 + j = j + 1 + 1 + 1 + 1 + 1 by omega]; rfl
theorem set5 {a0 a1 a2 a3 a4 e : Ent} {l : Mem} {j : Nat} : (a0 :: a1 :: a2 :: a3 :: a4 :: l).set (5 + j) e = a0 :: a1 :: a2 :: a3 :: a4 :: l.set j e := by
  rw [show 5 + j = j + 1 + 1 + 1 + 1 + 1 by omega]; rfl
theorem vac_get {n k : Nat} {a b : Ent} (h : k < n) : (List.replicate k a ++ List.replicate (n - k) b)[k]? = some b := by
  rw [List.getElem?_append_right (by simp), List.length_replicate, Nat.sub_self, List.getElem?_replicate, if_pos (by omega)]
theorem vac_set {n k : Nat} {a b : Ent} (h : k < n) : (List.replicate k a ++ List.replicate (n - k) b).set k a = List.replicate (k + 1) a ++ List.replicate (n - (k + 1)) b := by
  rw [List.set_append_right _ _ (by simp)]
  obtain ⟨j, hj⟩ : ∃ j, n - k = j + 1 := ⟨n - k - 1, by omega⟩
  rw [hj, List.replicate_succ, List.length_replicate, Nat.sub_self, List.set_cons_zero, show n - (k + 1) = j by omega, List.replicate_succ']
  simp
theorem count_ok (ks : List St) (ls : List Ln) (h1 : chkE ks ls = 0) (hg : lgS ks ls = false) (hck : Pure Try.prog 28 [storA ks ls] (.int 0)) : Pure Try.prog 46 [storA ks ls] (.tup [.int (pdK ks ls ks.length : Nat), .int 0]) := by
  have hv := chkE_ok h1
  have hk8 := hv.k8
  have hl20 := hv.l20
  have hsm := small_loans hv hg
  have hpd := small_pd hv hg
  have hcn := small_cn hv hg
  (refine Spec.bd 0 Try.func46 Try.results46 Try.ntmps46 ?_; simp only [entry, zipArgs, Nat.reduceAdd])
  (refine w_go ?_)
  (apply Run.pureP; (exact w_ev); (exact (Enters.of Try.func28 rfl rfl)); (exact hck); (exact w_al); (try dsimp only [putA, optG]))
  (refine w_gg ?_)
  refine Wp.loop (fun (q : Nat × Mem) => { t := [(1, .optr 0 0 0 0), (5, .int (pdK ks ls q.1 : Nat)), (18, .lst 2 (ks.map stA)), (19, .int ks.length), (20, .int q.1)], m := q.2, n := 84 }) (fun q => q.1 ≤ ks.length ∧ q.2[0]? = some ⟨0, .row 2 [storA ks ls]⟩) (fun q => ks.length - q.1) (0, [⟨0, .row 2 [storA ks ls]⟩]) ?_ ?_ ?_
  · (refine Le.of ?_ ?_ rfl rfl <;> (try simp only [push_cast, seval]) <;> (try (with_reducible rfl)))
    all_goals rfl
  · exact ⟨by simp, rfl⟩
  · rintro ⟨k, M⟩ ⟨hk1, hM⟩
    simp only at hk1 hM
    obtain ⟨B, hB⟩ : ∃ B, M.length = B := ⟨_, rfl⟩
    have hM1 := (List.getElem?_eq_some_iff.1 hM).1
    have hm0 : ∀ l, (M ++ l)[0]? = some ⟨0, .row 2 [storA ks ls]⟩ := fun l => by rw [List.getElem?_append_left hM1, hM]
    have hb0 : ∀ l, (M ++ l)[B]? = l[0]? := fun l => getF0 hB
    have hbj : ∀ l j, (M ++ l)[B + j]? = l[j]? := fun l j => getF hB j
    have hs0 : ∀ l e, (M ++ l).set B e = M ++ l.set 0 e := fun l e => setF0 hB e
    have hsj : ∀ l j e, (M ++ l).set (B + j) e = M ++ l.set j e := fun l j e => setF hB j e
    have hap : ∀ (l l' : Mem), (M ++ l) ++ l' = M ++ (l ++ l') := fun l l' => List.append_assoc _ _ _
    (refine x_go (zc @hM (zc @hm0 (zc @hb0 (zc @hbj (zc @hs0 (zc @hsj (zc @hap (zc @hB @lenAp)))))))) ?_)
    (apply Wp.cond; (exact x_ev (zc @hM (zc @hm0 (zc @hb0 (zc @hbj (zc @hs0 (zc @hsj (zc @hap (zc @hB @lenAp))))))))))
    · intro hc
      simp only [decide_eq_true_eq, Int.ofNat_lt] at hc
      have hst := hv.st k hc
      have hsi := hsm.2 k hc
      have hik : itK ks k = (ks.getD k st0).items.toNat := rfl
      generalize hy : ks.getD k st0 = y at *
      (refine x_go (zc @hM (zc @hm0 (zc @hb0 (zc @hbj (zc @hs0 (zc @hsj (zc @hap (zc @hB (zc @lenAp (zc @hy @stA.eq_1)))))))))) ?_)
      refine Wp.adoptRowZ (B + 1) 1 5 (l' := [.agg [.osl (B + 2) 0 0 0, .int y.life, .int y.items, .emp]]) ((hbj _ 1).trans rfl) ⟨.inr ⟨_, _, rfl, rfl, .inl (.inr ⟨rfl, B + 2, by simp [hB], by simp [hB], rfl⟩), .inl (.inl rfl), .inl (.inl rfl), .inl (.inl rfl), trivial⟩, trivial⟩ ?_
      simp only [hsj, hap, List.set_cons_succ, List.set_cons_zero, List.replicate_succ, List.replicate_zero, List.cons_append, List.nil_append]
      refine Wp.adoptRow (B + 1) 1 (l' := [.agg [.osl (B + 2) 0 0 0, .int y.life, .int y.items, .osl (B + 3) 0 0 0]]) ((hbj _ 1).trans rfl) ⟨.inr ⟨_, _, rfl, rfl, .inl (.inl rfl), .inl (.inl rfl), .inl (.inl rfl), .inl (.inr ⟨rfl, B + 3, by simp [hB], by simp [hB], rfl⟩), trivial⟩, trivial⟩ ?_
      simp only [hsj, hap, List.set_cons_succ, List.set_cons_zero, List.replicate_succ, List.replicate_zero, List.cons_append, List.nil_append]
      (refine Wp.vacs 1 ?_; (try simp only [List.replicate_succ, List.replicate_zero, List.cons_append, List.nil_append]))
      refine Wp.vacs (kdsL ls k).length ?_
      simp only [hap, List.cons_append, List.nil_append]
      refine Wp.loop (fun (q : Nat × Nat × Kind) => { t := [(1, .optr 0 0 0 0), (5, .int (pdK ks ls k : Nat)), (18, .lst 2 (ks.map stA)), (19, .int ks.length), (20, .int k), (6, .int k), (8, .optr (B + 1) 0 0 0), (32, .lst 5 (ls.map lnA)), (33, .int ls.length), (34, .int q.1)], m := M ++ (⟨0, .row 2 [stA y]⟩ :: ⟨0, .row 4 [.agg [.osl (B + 2) (kdsL (ls.take q.1) k).length 0 (kdsL (ls.take q.1) k).length, .int y.life, .int y.items, .osl (B + 3) (kdsL (ls.take q.1) k).length 0 (kdsL (ls.take q.1) k).length]]⟩ :: ⟨(kdsL (ls.take q.1) k).length, .row 5 ((kdsL (ls.take q.1) k).map lnA)⟩ :: ⟨(kdsL (ls.take q.1) k).length, .row 1 (knB B (kdsL (ls.take q.1) k).length)⟩ :: ⟨q.2.1, q.2.2⟩ :: (List.replicate (kdsL (ls.take q.1) k).length ⟨1, .mp []⟩ ++ List.replicate ((kdsL ls k).length - (kdsL (ls.take q.1) k).length) ⟨0, .row 1 []⟩)), n := 84 }) (fun q => q.1 ≤ ls.length) (fun q => ls.length - q.1) (0, 0, .row 1 []) ?_ ?_ ?_
      · have e0 : kdsL (ls.take 0) k = [] := by simp [kdsL]
        simp only [e0, List.length_nil]
        (refine Le.of ?_ ?_ rfl rfl <;> (try simp only [push_cast, seval, hM, hm0, hb0, hbj, hs0, hsj, hap, hB, List.length_append, hy, stA]) <;> (try (with_reducible rfl)))
        all_goals (first | rfl | simp [knB])
      · simp
      · rintro ⟨i, v, kd⟩ hi1
        simp only at hi1
        (refine x_gs (zc @hM (zc @hm0 (zc @hb0 (zc @hbj (zc @hs0 (zc @hsj (zc @hap (zc @hB (zc @lenAp (zc @hy @stA.eq_1)))))))))) ?_)
        (apply Wp.cond; (exact x_ev (zc @hM (zc @hm0 (zc @hb0 (zc @hbj (zc @hs0 (zc @hsj (zc @hap (zc @hB (zc @lenAp (zc @hy @stA.eq_1))))))))))))
        · intro hc2
          simp only [decide_eq_true_eq, Int.ofNat_lt] at hc2
          have hks := kdsL_succ hc2 k
          have hpl := kdsL_le ls (i + 1) k
          have hpl0 := kdsL_le ls i k
          have hkl := kdsL_len ls k
          generalize (kdsL ls k).length = n0 at *
          generalize hx : ls.getD i ln0 = x at hks
          generalize kdsL (ls.take i) k = P at *
          have hkn := knB_len B P.length
          (refine x_gs (zc @hM (zc @hm0 (zc @hb0 (zc @hbj (zc @hs0 (zc @hsj (zc @hap (zc @hB (zc @lenAp (zc @hy (zc @stA.eq_1 (zc @hx (zc @lnA.eq_1 @hkn))))))))))))) ?_)
          (apply Run.alcAt (B + 4); (exact x_ev (zc @hM (zc @hm0 (zc @hb0 (zc @hbj (zc @hs0 (zc @hsj (zc @hap (zc @hB (zc @lenAp (zc @hy (zc @stA.eq_1 (zc @hx (zc @lnA.eq_1 @hkn)))))))))))))); (focus ((try simp only [push_cast, seval, hM, hm0, hb0, hbj, hs0, hsj, hap, hB, List.length_append, hy, stA, hx, lnA, hkn]) <;> exact sT)); (exact x_ev (zc @hM (zc @hm0 (zc @hb0 (zc @hbj (zc @hs0 (zc @hsj (zc @hap (zc @hB (zc @lenAp (zc @hy (zc @stA.eq_1 (zc @hx (zc @lnA.eq_1 @hkn)))))))))))))); (try simp only [push_cast, seval, hM, hm0, hb0, hbj, hs0, hsj, hap, hB, List.length_append, hy, stA, hx, lnA, hkn]))
          (refine x_go (zc @hM (zc @hm0 (zc @hb0 (zc @hbj (zc @hs0 (zc @hsj (zc @hap (zc @hB (zc @lenAp (zc @hy (zc @stA.eq_1 (zc @hx (zc @lnA.eq_1 @hkn))))))))))))) ?_)
          (apply Wp.cond; (exact x_ev (zc @hM (zc @hm0 (zc @hb0 (zc @hbj (zc @hs0 (zc @hsj (zc @hap (zc @hB (zc @lenAp (zc @hy (zc @stA.eq_1 (zc @hx (zc @lnA.eq_1 @hkn)))))))))))))))
          · intro h2
            simp only [decide_eq_true_eq] at h2
            rw [if_pos h2] at hks
            rw [hks, List.length_append, List.length_singleton] at hpl
            have hvg := vac_get (n := n0) (k := P.length) (a := (⟨1, .mp []⟩ : Ent)) (b := (⟨0, .row 1 []⟩ : Ent)) (by omega)
            have hvs := vac_set (n := n0) (k := P.length) (a := (⟨1, .mp []⟩ : Ent)) (b := (⟨0, .row 1 []⟩ : Ent)) (by omega)
            have hPt : P.take P.length = P := List.take_length
            have hKt : (knB B P.length).take P.length = knB B P.length := List.take_of_length_le (by omega)
            have hks2 := knB_succ B P.length
            (refine x_go (zc @hM (zc @hm0 (zc @hb0 (zc @hbj (zc @hs0 (zc @hsj (zc @hap (zc @hB (zc @lenAp (zc @hy (zc @stA.eq_1 (zc @hx (zc @lnA.eq_1 (zc @hkn (zc @get5 (zc @set5 (zc @hvg (zc @hvs (zc @hPt (zc @hKt @lenMp)))))))))))))))))))) ?_)
            (apply Wp.runW 7 10 (fun m => m.set (B + 2) ⟨P.length + 1, .row 5 (P.map lnA ++ [.agg [.int x.kind, .int x.room, .int x.fr, .int x.to, .int x.uses]])⟩) mixed; (dsimp only [List.map] <;> exact rfl); exact rfl; kernel_rfl; kernel_rfl; (dsimp only; ((refine x_wl (zc @hM (zc @hm0 (zc @hb0 (zc @hbj (zc @hs0 (zc @hsj (zc @hap (zc @hB (zc @lenAp (zc @hy (zc @stA.eq_1 (zc @hx (zc @lnA.eq_1 (zc @hkn (zc @get5 (zc @set5 (zc @hvg (zc @hvs (zc @hPt (zc @hKt @lenMp)))))))))))))))))))) ?_)); exact AbW.nil))
            (refine x_gs (zc @hM (zc @hm0 (zc @hb0 (zc @hbj (zc @hs0 (zc @hsj (zc @hap (zc @hB (zc @lenAp (zc @hy (zc @stA.eq_1 (zc @hx (zc @lnA.eq_1 (zc @hkn (zc @get5 (zc @set5 (zc @hvg (zc @hvs (zc @hPt (zc @hKt @lenMp)))))))))))))))))))) ?_)
            (apply Run.mapAt ((B + (5 + P.length))); (first | ((exact x_ev (zc @hM (zc @hm0 (zc @hb0 (zc @hbj (zc @hs0 (zc @hsj (zc @hap (zc @hB (zc @lenAp (zc @hy (zc @stA.eq_1 (zc @hx (zc @lnA.eq_1 (zc @hkn (zc @get5 (zc @set5 (zc @hvg (zc @hvs (zc @hPt (zc @hKt @lenMp)))))))))))))))))))))) | exact rfl); (try simp only [push_cast, seval, hM, hm0, hb0, hbj, hs0, hsj, hap, hB, List.length_append, hy, stA, hx, lnA, hkn, get5, set5, hvg, hvs, hPt, hKt, List.length_map]))
            (refine x_go (zc @hM (zc @hm0 (zc @hb0 (zc @hbj (zc @hs0 (zc @hsj (zc @hap (zc @hB (zc @lenAp (zc @hy (zc @stA.eq_1 (zc @hx (zc @lnA.eq_1 (zc @hkn (zc @get5 (zc @set5 (zc @hvg (zc @hvs (zc @hPt (zc @hKt @lenMp)))))))))))))))))))) ?_)
            refine ⟨(i + 1, v + 1, .row 5 [lnA x]), ?_, by simp only; omega, by simp only; omega⟩
            simp only [hks, List.length_append, List.length_singleton, hks2]
            (refine Le.of ?_ ?_ rfl rfl <;> (try simp only [push_cast, seval, hM, hm0, hb0, hbj, hs0, hsj, hap, hB, List.length_append, hy, stA, hx, lnA, hkn, get5, set5, hvg, hvs, hPt, hKt, List.length_map]) <;> (try (with_reducible rfl)))
            rw [List.map_append]
            rfl
          · intro h2
            simp only [decide_eq_false_iff_not] at h2
            rw [if_neg h2] at hks
            (refine x_go (zc @hM (zc @hm0 (zc @hb0 (zc @hbj (zc @hs0 (zc @hsj (zc @hap (zc @hB (zc @lenAp (zc @hy (zc @stA.eq_1 (zc @hx (zc @lnA.eq_1 @hkn))))))))))))) ?_)
            refine ⟨(i + 1, v + 1, .row 5 [lnA x]), ?_, by simp only; omega, by simp only; omega⟩
            simp only [hks]
            (refine Le.of ?_ ?_ rfl rfl <;> (try simp only [push_cast, seval, hM, hm0, hb0, hbj, hs0, hsj, hap, hB, List.length_append, hy, stA, hx, lnA, hkn]) <;> (try (with_reducible rfl)))
        · intro hc2
          simp only [decide_eq_false_iff_not, Int.ofNat_lt] at hc2
          obtain rfl : i = ls.length := by omega
          rw [List.take_length]
          simp only [Nat.sub_self, List.replicate_zero, List.append_nil]
          have hkl := kdsL_len ls k
          have hPm : ∀ l ∈ kdsL ls k, l ∈ ls := fun l hl => (List.mem_filter.1 hl).1
          have hcg := fun (sls : List Ln) (h : sls.Perm (kdsL ls k)) (h2 : Asc Ln.fr sls) => cn_kindG hv h h2
          rw [hy] at hcg
          generalize kdsL ls k = P at *
          have hLnd := fun l (h : l ∈ P) => hv.mem (hPm l h)
          have hsort := stableLn_spec (m := M ++ (⟨0, .row 2 [stA y]⟩ :: ⟨0, .row 4 [.agg [.osl (B + 2) P.length 0 P.length, .int y.life, .int y.items, .osl (B + 3) P.length 0 P.length]]⟩ :: ⟨P.length, .row 5 (P.map lnA)⟩ :: ⟨P.length, .row 1 (knB B P.length)⟩ :: ⟨v, kd⟩ :: List.replicate P.length ⟨1, .mp []⟩)) (e := B + 2) (ver := P.length) (g := 79) (caps := []) (caps' := []) (ky := Ln.fr) (Enters.of Try.func79 rfl rfl) P (by rw [List.length_append, hB]; simp) (fun _ => .nil) (by simp [okL]) (fun a ha b hb => cmpLn_pure a b (by have := hLnd a ha; omega) (by have := hLnd b hb; omega)) (by omega)
          simp only [hsj, List.set_cons_succ, List.set_cons_zero] at hsort
          (refine x_go (zc @hM (zc @hm0 (zc @hb0 (zc @hbj (zc @hs0 (zc @hsj (zc @hap (zc @hB (zc @lenAp (zc @hy @stA.eq_1)))))))))) ?_)
          apply Run.spec (he := Enters.of Try.func78 rfl rfl) (hc := hsort)
          · exact rfl
          · exact rfl
          · (exact x_ev (zc @hM (zc @hm0 (zc @hb0 (zc @hbj (zc @hs0 (zc @hsj (zc @hap (zc @hB (zc @lenAp (zc @hy @stA.eq_1)))))))))))
          · rintro _ _ ⟨Z, hZ1, hZ2, hZ3, rfl⟩
            have hasc := asc_of hZ3
            have hcg2 := hcg Z hZ2 hasc
            rw [hik] at hcg2
            have hci : ((y.items.toNat : Nat) : Int) = y.items := Int.toNat_of_nonneg hst.1.1
            have hCV : CV y.life y.items.toNat Z := ⟨hst.2, by omega, by omega, hasc, fun i hi => by
              have hm : Z.getD i ln0 ∈ Z := memA ln0 hi
              have := hLnd _ (hZ2.mem_iff.1 hm)
              exact ⟨this.2.1, this.2.2⟩⟩
            have hCM : CM y.life y.items.toNat Z (M ++ [⟨0, .row 2 [stA y]⟩, ⟨0, .row 4 [.agg [.osl (B + 2) P.length 0 P.length, .int y.life, .int y.items, .osl (B + 3) P.length 0 P.length]]⟩, ⟨P.length, .row 5 (Z.map lnA)⟩, ⟨P.length, .row 1 (knB B P.length)⟩, ⟨v, kd⟩]) (B + 5) (B + 1) 0 (B + 2) P.length (B + 3) P.length :=
              ⟨by rw [List.length_append, hB]; rfl, by rw [hZ1, hci]; exact (hbj _ 1).trans rfl, (hbj _ 2).trans rfl, by rw [hZ1, ← knB_knL]; exact (hbj _ 3).trans rfl⟩
            have hcall := count_spec hCV hCM Z 0 0 (List.replicate y.items.toNat (0, 0)) [] (fun _ => []) rfl (by simp) rfl (by simp) (fun p hp => by rw [List.eq_of_mem_replicate hp]; exact ⟨by simp, by simp⟩) (fun j _ _ => MoS.nil _ _ _)
            have hz8 : s8 y.items.toNat (List.replicate y.items.toNat (0, 0)) = List.replicate 8 (0, 0) := by
              unfold s8; rw [List.replicate_append_replicate]; congr 1; omega
            rw [hz8, hcg2] at hcall
            have hmm : M ++ (⟨0, .row 2 [stA y]⟩ :: ⟨0, .row 4 [.agg [.osl (B + 2) P.length 0 P.length, .int y.life, .int y.items, .osl (B + 3) P.length 0 P.length]]⟩ :: ⟨P.length, .row 5 (Z.map lnA)⟩ :: ⟨P.length, .row 1 (knB B P.length)⟩ :: ⟨v, kd⟩ :: List.replicate P.length ⟨1, .mp []⟩) = Mm (M ++ [⟨0, .row 2 [stA y]⟩, ⟨0, .row 4 [.agg [.osl (B + 2) P.length 0 P.length, .int y.life, .int y.items, .osl (B + 3) P.length 0 P.length]]⟩, ⟨P.length, .row 5 (Z.map lnA)⟩, ⟨P.length, .row 1 (knB B P.length)⟩, ⟨v, kd⟩]) Z.length (fun _ => []) [] := by
              have e : mpsE Z.length (fun _ => []) = List.replicate P.length (⟨1, .mp []⟩ : Ent) := by
                unfold mpsE; rw [List.map_const']; simp [hZ1]
              rw [Mm, e]; simp
            dsimp only [S.put, optG]
            (refine x_go (zc @hM (zc @hm0 (zc @hb0 (zc @hbj (zc @hs0 (zc @hsj (zc @hap (zc @hB (zc @lenAp (zc @hy @stA.eq_1)))))))))) ?_)
            apply Run.spec (he := Enters.of Try.func80 rfl rfl) (hc := hcall)
            · exact hmm
            · exact rfl
            · (exact x_ev (zc @hM (zc @hm0 (zc @hb0 (zc @hbj (zc @hs0 (zc @hsj (zc @hap (zc @hB (zc @lenAp (zc @hy @stA.eq_1)))))))))))
            · rintro _ m2 ⟨rfl, mp2, J2, _, _, hm2⟩
              rw [Mm, List.append_assoc, List.append_assoc] at hm2
              generalize [(⟨0, .row 2 [stA y]⟩ : Ent), ⟨0, .row 4 [.agg [.osl (B + 2) P.length 0 P.length, .int y.life, .int y.items, .osl (B + 3) P.length 0 P.length]]⟩, ⟨P.length, .row 5 (Z.map lnA)⟩, ⟨P.length, .row 1 (knB B P.length)⟩, ⟨v, kd⟩] ++ (mpsE Z.length mp2 ++ [] ++ J2) = R at hm2
              subst hm2
              dsimp only [S.put, optG]
              have hpk := hpd k
              have hpk1 := hpd (k + 1)
              have hcnk := hcn k
              have hpe : pdK ks ls (k + 1) = pdK ks ls k * cnA ks ls k := rfl
              by_cases e0 : cnA ks ls k = 0
              · have d0 : decide (((cnA ks ls k : Nat) : Int) = 0) = true := decide_eq_true (by omega)
                have hp0 := pd_zero e0 hc
                rw [hp0]
                (refine x_gg (zc @hM (zc @hm0 (zc @hb0 (zc @hbj (zc @hs0 (zc @hsj (zc @hap (zc @hB (zc @lenAp @d0))))))))) ?_)
                (first | exact x_ret (zc @hM (zc @hm0 (zc @hb0 (zc @hbj (zc @hs0 (zc @hsj (zc @hap (zc @hB (zc @lenAp @d0))))))))) | refine x_retZ (zc @hM (zc @hm0 (zc @hb0 (zc @hbj (zc @hs0 (zc @hsj (zc @hap (zc @hB (zc @lenAp @d0))))))))) ?_)
              · have d0 : decide (((cnA ks ls k : Nat) : Int) = 0) = false := decide_eq_false (by omega)
                generalize cnA ks ls k = a at *
                generalize hb : pdK ks ls k = b at *
                obtain ⟨Q, hQ⟩ : ∃ Q, Int.tdiv 1099511627776 (a : Int) = Q := ⟨_, rfl⟩
                have hQ2 : 4096 ≤ Q ∧ Q ≤ 1099511627776 := by
                  rw [← hQ, Int.tdiv_eq_ediv_of_nonneg (by omega)]
                  exact ⟨Int.le_ediv_of_mul_le (by omega) (by omega), Int.ediv_le_self _ (by omega)⟩
                have d2 : decide (Q < (b : Int)) = false := decide_eq_false (by omega)
                obtain ⟨z, hz⟩ : ∃ z : Nat, b * a = z := ⟨_, rfl⟩
                have hmz : (b : Int) * (a : Int) = (z : Int) := by rw [← hz]; simp
                rw [hz] at hpe
                rw [hpe] at hpk1
                (refine x_gg (zc @hM (zc @hm0 (zc @hb0 (zc @hbj (zc @hs0 (zc @hsj (zc @hap (zc @hB (zc @lenAp (zc @d0 (zc @hQ (zc @d2 @hmz)))))))))))) ?_)
                refine ⟨(k + 1, M ++ R), ?_, ⟨by simp only; omega, hm0 R⟩, by simp only; omega⟩
                simp only [hpe]
                (refine Le.of ?_ ?_ rfl rfl <;> (try simp only [push_cast, seval, hM, hm0, hb0, hbj, hs0, hsj, hap, hB, List.length_append, d0, hQ, d2, hmz]) <;> (try (with_reducible rfl)))
    · intro hc
      simp only [decide_eq_false_iff_not, Int.ofNat_lt] at hc
      obtain rfl : k = ks.length := by omega
      (refine x_go (zc @hM (zc @hm0 (zc @hb0 (zc @hbj (zc @hs0 (zc @hsj (zc @hap (zc @hB @lenAp)))))))) ?_)
      (first | exact x_ret (zc @hM (zc @hm0 (zc @hb0 (zc @hbj (zc @hs0 (zc @hsj (zc @hap (zc @hB @lenAp)))))))) | refine x_retZ (zc @hM (zc @hm0 (zc @hb0 (zc @hbj (zc @hs0 (zc @hsj (zc @hap (zc @hB @lenAp)))))))) ?_)
end Go.Proofs.Try
set_option maxHeartbeats 8000000
set_option maxRecDepth 20000
namespace Go.Proofs.Try
open Go.Vg

/-! Count, and the statement of Plan and Count -/
theorem Count_pure (ks : List St) (ls : List Ln) (hk : ks.length ≤ 9223372036854775807) (hl : ls.length ≤ 9223372036854775807) (hg : lgS ks ls = false) : Pure Try.prog 46 [storA ks ls] (.tup [.int (ctN ks ls), .int (chkE ks ls)]) := by
  have hck := check_pure ks ls hk hl
  unfold ctN
  by_cases h1 : chkE ks ls = 0
  · rw [if_pos h1]
    rw [h1] at hck
    have := count_ok ks ls h1 hg hck
    rw [h1]
    exact this
  · rw [if_neg h1]
    have e1 : decide (chkE ks ls = 0) = false := decide_eq_false h1
    generalize chkE ks ls = e at *
    (refine Spec.bd 0 Try.func46 Try.results46 Try.ntmps46 ?_; simp only [entry, zipArgs, Nat.reduceAdd])
    (refine x_go @e1 ?_)
    (apply Run.pureP; (exact x_ev @e1); (exact (Enters.of Try.func28 rfl rfl)); (exact hck); (exact x_al @e1); (try dsimp only [putA, optG]))
    (refine x_gg @e1 ?_)
    (first | exact x_ret @e1 | refine x_retZ @e1 ?_)
theorem lawPlans_pure (ks : List St) (ls : List Ln) (hk : ks.length ≤ 9223372036854775807) (hl : ls.length ≤ 9223372036854775807) : Pure Try.prog 13 [storA ks ls] (.bool true) := by
  have hg := large_pure ks ls hk hl
  have hw := works_pure
  cases hgl : lgS ks ls with
  | true =>
    rw [hgl] at hg
    (refine Spec.bd 0 Try.func13 Try.results13 Try.ntmps13 ?_; simp only [entry, zipArgs, Nat.reduceAdd])
    (refine w_go ?_)
    (apply Run.pureP; (exact w_ev); (exact (Enters.of Try.func15 rfl rfl)); (exact hg); (exact w_al); (try dsimp only [putA, optG]))
    (refine w_gg ?_)
    (apply Run.pureP; (exact w_ev); (exact (Enters.of Try.func16 rfl rfl)); (exact hw); (exact w_al); (try dsimp only [putA, optG]))
    (refine w_gg ?_)
    (first | exact w_ret | refine w_retZ ?_)
  | false =>
    rw [hgl] at hg
    have h12 : chkE ks ls = 0 → ls.length ≤ 12 ∧ pdK ks ls ks.length ≤ 4096 := fun h => ⟨by have := (small_loans (chkE_ok h) hgl).1; omega, small_pd (chkE_ok h) hgl _⟩
    have c1 := Plan_pure ks ls hk hl
    have c2 := rPlan_pure ks ls hk hl (fun h => (h12 h).1)
    have c3 := Count_pure ks ls hk hl hgl
    have c4 := rCount_pure ks ls hk hl h12
    have hpv : (∃ s, plnA ks ls = .ints s) ∨ plnA ks ls = .emp := by
      unfold plnA; split
      · exact .inl ⟨_, rfl⟩
      · exact .inr rfl
    generalize plnA ks ls = x at c1 c2 hpv
    generalize plnE ks ls = e at c1 c2
    generalize ctN ks ls = n at c3 c4
    generalize chkE ks ls = e2 at c3 c4
    rcases hpv with ⟨s, rfl⟩ | rfl
    · have hs := sameInts_same s
      (refine Spec.bd 0 Try.func13 Try.results13 Try.ntmps13 ?_; simp only [entry, zipArgs, Nat.reduceAdd])
      (refine x_go (zc @decide_true @beqSf) ?_)
      (apply Run.pureP; (exact x_ev (zc @decide_true @beqSf)); (exact (Enters.of Try.func15 rfl rfl)); (exact hg); (exact x_al (zc @decide_true @beqSf)); (try dsimp only [putA, optG]))
      (refine x_gg (zc @decide_true @beqSf) ?_)
      (apply Run.pureFP; (exact x_ev (zc @decide_true @beqSf)); (exact (Enters.of Try.func25 rfl rfl)); (exact c1); (exact x_al (zc @decide_true @beqSf)); (try dsimp only [putA, optG]))
      (refine x_gg (zc @decide_true @beqSf) ?_)
      (apply Run.pureFP; (exact x_ev (zc @decide_true @beqSf)); (exact (Enters.of Try.func45 rfl rfl)); (exact c2); (exact x_al (zc @decide_true @beqSf)); (try dsimp only [putA, optG]))
      (refine x_gg (zc @decide_true @beqSf) ?_)
      (apply Run.pureFP; (exact x_ev (zc @decide_true @beqSf)); (exact (Enters.of Try.func23 rfl rfl)); (exact hs); (exact x_al (zc @decide_true @beqSf)); (try dsimp only [putA, optG]))
      (refine x_gg (zc @decide_true @beqSf) ?_)
      (apply Run.pureP; (exact x_ev (zc @decide_true @beqSf)); (exact (Enters.of Try.func46 rfl rfl)); (exact c3); (exact x_al (zc @decide_true @beqSf)); (try dsimp only [putA, optG]))
      (refine x_gg (zc @decide_true @beqSf) ?_)
      (apply Run.pureP; (exact x_ev (zc @decide_true @beqSf)); (exact (Enters.of Try.func47 rfl rfl)); (exact c4); (exact x_al (zc @decide_true @beqSf)); (try dsimp only [putA, optG]))
      (refine x_gg (zc @decide_true @beqSf) ?_)
      (apply Run.pureP; (exact x_ev (zc @decide_true @beqSf)); (exact (Enters.of Try.func16 rfl rfl)); (exact hw); (exact x_al (zc @decide_true @beqSf)); (try dsimp only [putA, optG]))
      (refine x_gg (zc @decide_true @beqSf) ?_)
      (first | exact x_ret (zc @decide_true @beqSf) | refine x_retZ (zc @decide_true @beqSf) ?_)
    · have hs := sameInts_emp'
      (refine Spec.bd 0 Try.func13 Try.results13 Try.ntmps13 ?_; simp only [entry, zipArgs, Nat.reduceAdd])
      (refine x_go (zc @decide_true @beqSf) ?_)
      (apply Run.pureP; (exact x_ev (zc @decide_true @beqSf)); (exact (Enters.of Try.func15 rfl rfl)); (exact hg); (exact x_al (zc @decide_true @beqSf)); (try dsimp only [putA, optG]))
      (refine x_gg (zc @decide_true @beqSf) ?_)
      (apply Run.pureFP; (exact x_ev (zc @decide_true @beqSf)); (exact (Enters.of Try.func25 rfl rfl)); (exact c1); (exact x_al (zc @decide_true @beqSf)); (try dsimp only [putA, optG]))
      (refine x_gg (zc @decide_true @beqSf) ?_)
      (apply Run.pureFP; (exact x_ev (zc @decide_true @beqSf)); (exact (Enters.of Try.func45 rfl rfl)); (exact c2); (exact x_al (zc @decide_true @beqSf)); (try dsimp only [putA, optG]))
      (refine x_gg (zc @decide_true @beqSf) ?_)
      (apply Run.pureFP; (exact x_ev (zc @decide_true @beqSf)); (exact (Enters.of Try.func23 rfl rfl)); (exact hs); (exact x_al (zc @decide_true @beqSf)); (try dsimp only [putA, optG]))
      (refine x_gg (zc @decide_true @beqSf) ?_)
      (apply Run.pureP; (exact x_ev (zc @decide_true @beqSf)); (exact (Enters.of Try.func46 rfl rfl)); (exact c3); (exact x_al (zc @decide_true @beqSf)); (try dsimp only [putA, optG]))
      (refine x_gg (zc @decide_true @beqSf) ?_)
      (apply Run.pureP; (exact x_ev (zc @decide_true @beqSf)); (exact (Enters.of Try.func47 rfl rfl)); (exact c4); (exact x_al (zc @decide_true @beqSf)); (try dsimp only [putA, optG]))
      (refine x_gg (zc @decide_true @beqSf) ?_)
      (apply Run.pureP; (exact x_ev (zc @decide_true @beqSf)); (exact (Enters.of Try.func16 rfl rfl)); (exact hw); (exact x_al (zc @decide_true @beqSf)); (try dsimp only [putA, optG]))
      (refine x_gg (zc @decide_true @beqSf) ?_)
      (first | exact x_ret (zc @decide_true @beqSf) | refine x_retZ (zc @decide_true @beqSf) ?_)
end Go.Proofs.Try
