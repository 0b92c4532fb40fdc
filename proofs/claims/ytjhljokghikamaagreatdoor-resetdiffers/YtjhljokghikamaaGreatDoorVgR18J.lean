/- A part of the proof of ResetDiffers: contracts of functions, with plain laws that they need. -/
import Derived.Test.YtjhljokghikamaaGreatDoorVgR8J
set_option linter.all false
set_option maxHeartbeats 16000000
namespace Go.Proofs.Tryz
open Go.Vg

theorem stl_len {au : List Au} : ∀ {n : Nat} {ts t2 : List Int}, stl au n ts = some t2 → t2.length = ts.length
  | 0, ts, t2, h => by cases h
  | n + 1, ts, t2, h => by
    unfold stl at h
    split at h
    · cases h; rfl
    · have := stl_len h
      rw [this, List.length_set]
theorem Begin_pure {r : Rm} (hz : Sz r) : Pure Tryz.prog 64 [rmA r] (bgA r) := by
  have c0 := check_pure hz
  by_cases hc : chE r = 0
  · have hv := chE_RV hc
    have hn := hv.n
    have z2 := hz.ts
    have z3 := hz.pp
    have zau := hz.au
    have hav := hv.av hz rfl
    have c1 := lay_spec r (bg0 r) (bg0_Zs hz hv)
    rw [hc] at c0
    rw [bgA_eq hc]
    refine Spec.frz ?_
    unfold bg0 at c1 ⊢
    unfold stlA
    unfold rmA rmC stA at *
    simp only at c1 ⊢
    obtain ⟨N, hN⟩ : ∃ N : Nat, r.n = (N : Int) := ⟨r.n.toNat, by omega⟩
    have hNt : r.n.toNat = N := by omega
    rw [hNt] at c1 ⊢
    rw [hN] at c0
    have hrr : AV.int r.n = AV.int (N : Int) := by rw [hN]
    (refine Spec.of_bodyA Tryz.func64 rfl (by rw [Tryz.ntmps64]; simp) ?_; rw [Tryz.results64, Tryz.ntmps64]; simp only [entry, zipArgs, Nat.reduceAdd])
    ((refine x_pre (zc @hN @Int.toNat_natCast) ?_); (iterate 3 (refine x_nr (zc @hN @Int.toNat_natCast) ?_)); (refine x_nil (zc @hN @Int.toNat_natCast) ?_))
    (refine x_fzP (zc @hN @Int.toNat_natCast) (slq 1) ?_)
    (refine x_go (zc @hN @Int.toNat_natCast) ?_)
    (apply Run.pureP; (exact x_ev (zc @hN @Int.toNat_natCast)); (exact (Enters.of Tryz.func95 rfl rfl)); (exact c0); (exact x_al (zc @hN @Int.toNat_natCast)); (try dsimp only [putA, optG]))
    (refine x_gg (zc @hN @Int.toNat_natCast) ?_)
    refine Wp.adoptRow 3 2 (l' := [.agg [.osl 4 0 0 0, .osl 5 0 0 0, .osl 2 0 0 N]]) rfl ⟨.inr ⟨_, _, rfl, rfl, .inl (.inr ⟨rfl, 4, by simp, by simp, rfl⟩), .inl (.inr ⟨rfl, 5, by simp, by simp, rfl⟩), .inl (.inl rfl), trivial⟩, trivial⟩ ?_
    simp only [List.set_cons_succ, List.set_cons_zero, List.replicate_succ, List.replicate_zero, List.cons_append, List.nil_append]
    (refine Wp.vacs 1 ?_; (try simp only [List.replicate_succ, List.replicate_zero, List.cons_append, List.nil_append]))
    refine Wp.loop (fun (q : Nat × Nat × Kind) => { t := [(1, .ref (rmC r) 0), (2, .optr 1 0 0 0), (5, .optr 3 0 0 0), (21, .lst 4 (r.ts.map thA)), (22, .int r.ts.length), (23, .int q.1)], m := [⟨1, .row 8 []⟩, ⟨0, .row 3 [stN]⟩, ⟨0, .row 1 ((List.replicate N 0).map AV.int)⟩, ⟨0, .row 3 [.agg [.osl 4 q.1 0 q.1, .osl 5 0 0 0, .osl 2 0 0 N]]⟩, ⟨q.1, .row 1 (((r.ts.take q.1).map Th.st).map AV.int)⟩, ⟨0, .row 1 []⟩, ⟨q.2.1, q.2.2⟩], n := 56 }) (fun q => q.1 ≤ r.ts.length) (fun q => r.ts.length - q.1) (0, 0, .row 1 []) ?_ ?_ ?_
    · (refine Le.of ?_ ?_ rfl rfl <;> (try simp only [push_cast, seval, hN, Int.toNat_natCast]) <;> (try (with_reducible rfl)))
      all_goals (first | (simp only [rmC, hN]; exact ⟨rfl, rfl⟩) | (simp only [rmC, hN]; done) | rfl)
    · simp
    · rintro ⟨k, v, kd⟩ hk1
      simp only at hk1
      (refine x_go (zc @hN @rmC.eq_1) ?_)
      (apply Wp.cond; (exact x_ev (zc @hN @rmC.eq_1)))
      · (intro hc; first | replace hc := bT hc | skip)
        have hst := map_stepI Th.st th0 hc
        generalize hL : (r.ts.take k).map Th.st = L at hst
        have hLl : L.length = k := by rw [← hL, List.length_map, List.length_take]; omega
        have hLt : L.take k = L := List.take_of_length_le (by omega)
        generalize hx : r.ts.getD k th0 = x at hst
        (refine x_gs (zc @hN (zc @rmC.eq_1 (zc @hx (zc @hLl (zc @hLt @lenMp))))) ?_)
        (apply Run.alcAt 6; (exact x_ev (zc @hN (zc @rmC.eq_1 (zc @hx (zc @hLl (zc @hLt @lenMp)))))); ((try simp only [push_cast, seval, hN, rmC, hx, hLl, hLt, List.length_map]) <;> exact sT); exact rfl; (try simp only [push_cast, seval, hN, rmC, hx, hLl, hLt, List.length_map]))
        (refine x_go (zc @hN (zc @rmC.eq_1 (zc @hx (zc @hLl (zc @hLt @lenMp))))) ?_)
        refine ⟨(k + 1, v + 1, .row 4 [thA x]), ?_, by simp only; omega, by simp only; omega⟩
        simp only [hst]
        (refine Le.of ?_ ?_ rfl rfl <;> (try simp only [push_cast, seval, hN, rmC, hx, hLl, hLt, List.length_map]) <;> (try (with_reducible rfl)))
      · (intro hc; first | replace hc := bT hc | skip)
        obtain rfl : k = r.ts.length := by omega
        rw [List.take_of_length_le (Nat.le_refl _)]
        (refine x_go (zc @hN @rmC.eq_1) ?_)
        generalize hTs : r.ts.map Th.st = Ts at *
        have hTl : Ts.length = r.ts.length := by rw [← hTs, List.length_map]
        generalize hnt : r.ts.length = nt at *
        (refine Wp.vacs 1 ?_; (try simp only [List.replicate_succ, List.replicate_zero, List.cons_append, List.nil_append]))
        refine Wp.loop (fun (q : Nat × Nat × Kind) => { t := [(1, .ref (rmC r) 0), (2, .optr 1 0 0 0), (5, .optr 3 0 0 0), (36, .lst 3 (r.pp.map ppA)), (37, .int r.pp.length), (38, .int q.1)], m := [⟨1, .row 8 []⟩, ⟨0, .row 3 [stN]⟩, ⟨0, .row 1 ((List.replicate N 0).map AV.int)⟩, ⟨0, .row 3 [.agg [.osl 4 nt 0 nt, .osl 5 q.1 0 q.1, .osl 2 0 0 N]]⟩, ⟨nt, .row 1 (Ts.map AV.int)⟩, ⟨q.1, .row 1 (((r.pp.take q.1).map Pp.pl).map AV.int)⟩, ⟨v, kd⟩, ⟨q.2.1, q.2.2⟩], n := 56 }) (fun q => q.1 ≤ r.pp.length) (fun q => r.pp.length - q.1) (0, 0, .row 1 []) ?_ ?_ ?_
        · (refine Le.of ?_ ?_ rfl rfl <;> (try simp only [push_cast, seval, hN, rmC]) <;> (try (with_reducible rfl)))
          all_goals (first | (simp only [rmC, hN]; exact ⟨rfl, rfl⟩) | (simp only [rmC, hN]; done) | rfl)
        · simp
        · rintro ⟨k, v2, kd2⟩ hk2
          simp only at hk2
          (refine x_go (zc @hN @rmC.eq_1) ?_)
          (apply Wp.cond; (exact x_ev (zc @hN @rmC.eq_1)))
          · (intro hc; first | replace hc := bT hc | skip)
            have hst := map_stepI Pp.pl pp0 hc
            generalize hL : (r.pp.take k).map Pp.pl = L at hst
            have hLl : L.length = k := by rw [← hL, List.length_map, List.length_take]; omega
            have hLt : L.take k = L := List.take_of_length_le (by omega)
            generalize hx : r.pp.getD k pp0 = x at hst
            (refine x_gs (zc @hN (zc @rmC.eq_1 (zc @hx (zc @hLl (zc @hLt (zc @lenMp (zc (fun d => getD_pp (d := d) hc) @ppA.eq_1))))))) ?_)
            (apply Run.alcAt 7; (exact x_ev (zc @hN (zc @rmC.eq_1 (zc @hx (zc @hLl (zc @hLt (zc @lenMp (zc (fun d => getD_pp (d := d) hc) @ppA.eq_1)))))))); ((try simp only [push_cast, seval, hN, rmC, hx, hLl, hLt, List.length_map, getD_pp hc, ppA]) <;> exact sT); exact rfl; (try simp only [push_cast, seval, hN, rmC, hx, hLl, hLt, List.length_map, getD_pp hc, ppA]))
            (refine x_go (zc @hN (zc @rmC.eq_1 (zc @hx (zc @hLl (zc @hLt (zc @lenMp (zc (fun d => getD_pp (d := d) hc) @ppA.eq_1))))))) ?_)
            refine ⟨(k + 1, v2 + 1, .row 3 [ppA x]), ?_, by simp only; omega, by simp only; omega⟩
            simp only [hst]
            (refine Le.of ?_ ?_ rfl rfl <;> (try simp only [push_cast, seval, hN, rmC, hx, hLl, hLt, List.length_map, getD_pp hc, ppA]) <;> (try (with_reducible rfl)))
          · (intro hc; first | replace hc := bT hc | skip)
            obtain rfl : k = r.pp.length := by omega
            rw [List.take_of_length_le (Nat.le_refl _)]
            generalize hPs : r.pp.map Pp.pl = Ps at *
            have hPl : Ps.length = r.pp.length := by rw [← hPs, List.length_map]
            generalize r.pp.length = np at *
            (refine x_mv (zc @hN @rmC.eq_1) ?_)
            refine Wp.freezeRow 3 4 (vi := nt) (off := 0) (len := nt) (szi := 1) (li := Ts.map AV.int) (le' := [.agg [.ints Ts, .osl 5 np 0 np, .osl 2 0 0 N]]) (by decide) rfl rfl (by simp [hTl]) (by decide) ⟨.inr ⟨_, _, rfl, rfl, .inr ⟨rfl, by simp [← hTl, List.take_of_length_le]⟩, .inl rfl, .inl rfl, trivial⟩, trivial⟩ ?_
            simp only [List.set_cons_succ, List.set_cons_zero]
            refine Wp.freezeRow 3 5 (vi := np) (off := 0) (len := np) (szi := 1) (li := Ps.map AV.int) (le' := [.agg [.ints Ts, .ints Ps, .osl 2 0 0 N]]) (by decide) rfl rfl (by simp [hPl]) (by decide) ⟨.inr ⟨_, _, rfl, rfl, .inl rfl, .inr ⟨rfl, by simp [← hPl, List.take_of_length_le]⟩, .inl rfl, trivial⟩, trivial⟩ ?_
            simp only [List.set_cons_succ, List.set_cons_zero]
            refine Wp.freezeRow 3 2 (vi := 0) (off := 0) (len := N) (szi := 1) (li := (List.replicate N 0).map AV.int) (le' := [.agg [.ints Ts, .ints Ps, .ints (List.replicate N 0)]]) (by decide) rfl rfl (by simp) (by decide) ⟨.inr ⟨_, _, rfl, rfl, .inl rfl, .inl rfl, .inr ⟨rfl, by simp [List.take_of_length_le]⟩, trivial⟩, trivial⟩ ?_
            simp only [List.set_cons_succ, List.set_cons_zero]
            rw [hN] at c1
            have hab : (11 : Nat) ≠ 10 := by decide
            (refine x_go (zc @hN @rmC.eq_1) ?_)
            (apply Run.freshE (he := (Enters.of Tryz.func96 rfl rfl)); (simp only [push_cast, seval, hN, rmC] <;> first | exact rfl | assumption); (exact x_ev (zc @hN @rmC.eq_1)); (exact c1); ((exact x_cl (zc @hN @rmC.eq_1))); (exact x_ev (zc @hN @rmC.eq_1)); (exact x_ev (zc @hN @rmC.eq_1)); dsimp only [S.put, optG])
            (refine x_go (zc @hN @rmC.eq_1) ?_)
            have htb : tbO r 10 1 Ts.length Ps (List.replicate N 0) = [.strs r.ps, .lst 4 (r.ts.map thA), .lst 3 (r.pp.map ppA), .lst 3 (r.wy.map wyA), .lst 8 (r.ac.map acA), .lst 3 (r.au.map auA), .int N, .lst 3 (r.goal.map ltA), .osl 10 1 0 Ts.length, .ints Ps, .ints (List.replicate N 0)] := by
              unfold tbO; rw [hN]
            (apply Run.spec (he := (Enters.of Tryz.func97 rfl rfl)); exact rfl; (simp only [push_cast, seval, hN, rmC] <;> first | exact rfl | assumption); (exact x_ev (zc @hN @rmC.eq_1)); (exact settled_spec r (n := Ts.length) (by omega) (by rw [hTl]; exact hav) (by omega) (pp := Ps) (pl := List.replicate N 0) (by omega) (by rw [List.length_replicate]; omega) (a := 11) (va := 1) (b := 10) (vb := 1) hab rfl (by rw [htb]; rfl) rfl); (rintro x0 m0 ⟨ts', J, rfl, hq⟩; dsimp only [S.put, optG]))
            dsimp only [List.set_cons_succ, List.set_cons_zero, List.cons_append]
            cases h : stl r.au 101 Ts with
            | none =>
              rw [h] at hq
              simp only at hq
              subst hq
              (refine x_go (zc @hN @rmC.eq_1) ?_)
              (first | exact x_retA (zc @hN @rmC.eq_1) | refine x_retAZ (zc @hN @rmC.eq_1) ?_)
              exact Vw.tup (.cons (Vw.self (by simp [AV.ok, okL])) (.cons (Vw.self trivial) .nil))
            | some t2 =>
              rw [h] at hq
              obtain ⟨hq, rfl⟩ := hq
              subst hq
              have hl2 := stl_len h
              (refine x_go (zc @hN @rmC.eq_1) ?_)
              (first | exact x_retA (zc @hN @rmC.eq_1) | refine x_retAZ (zc @hN @rmC.eq_1) ?_)
              exact Vw.tup (.cons (Vw.agg (.cons (Vw.ointsR rfl hl2.symm) (.cons (Vw.self (ok_ints 0 _)) (.cons (Vw.self (ok_ints 0 _)) .nil)))) (.cons (Vw.self trivial) .nil))
  · have he : bgA r = .tup [stN, .int (chE r)] := by
      have e : bgE r = chE r := by unfold bgE; rw [orE_no hc]
      unfold bgA
      rw [e, if_neg hc]
    rw [he]
    have he2 : decide (chE r = 0) = false := decide_eq_false hc
    unfold rmA rmC at *
    (refine Spec.bd 0 Tryz.func64 Tryz.results64 Tryz.ntmps64 ?_; simp only [entry, zipArgs, Nat.reduceAdd])
    ((refine x_pre (zc @he2 @Bool.not_false) ?_); (iterate 3 (refine x_nr (zc @he2 @Bool.not_false) ?_)); (refine x_nil (zc @he2 @Bool.not_false) ?_))
    (refine x_fzP (zc @he2 @Bool.not_false) (slq 1) ?_)
    (refine x_go (zc @he2 @Bool.not_false) ?_)
    (apply Run.pureP; (exact x_ev (zc @he2 @Bool.not_false)); (exact (Enters.of Tryz.func95 rfl rfl)); (exact c0); (exact x_al (zc @he2 @Bool.not_false)); (try dsimp only [putA, optG]))
    (refine x_gg (zc @he2 @Bool.not_false) ?_)
    (first | exact x_ret (zc @he2 @Bool.not_false) | refine x_retZ (zc @he2 @Bool.not_false) ?_)
end Go.Proofs.Tryz
namespace Go.Vg
open Go.RowKit
variable {P : Program}

theorem Spec.stepF {gds : List (Option Nat)} {t : List (Nat × AV)} {m m' : Mem} {fo : Operand} {args : List Operand} {tys : Array TypeId} {dst : Option Nat} {type : TypeId} {pos : String} {after : Array Edge} {f : FuncId} {caps vargs : List AV} {x : AV}
    (he : Enters P f) (hf : fnOf (evo t fo) = some (f, caps)) (hv : args.map (evo t) ++ caps = vargs) (hk : okL 0 vargs) (hc : Spec P f vargs [] fun x' m'' => x' = x ∧ m'' = m') :
    StepAt P gds t m ⟨dst, callOp fo args tys, type, pos, after, none⟩ (m ++ m'.map fun (e : Ent) => (⟨e.ver, e.kind.shift m.length⟩ : Ent)) (x.shift m.length) := by
  refine ⟨fun c e => (by cases e), fun X w ρ a hi hr hn => ⟨fun _ => .inr (.inr ?_), fun hw => (by simp [Region.wanted] at hw)⟩⟩
  obtain ⟨h1, h2⟩ := onames_call (fo := fo) (args := args) (tys := tys) (t := t) (a := a) (X := X) (w := w) (ρ := ρ) (fun n hn => hr n (.inr hn))
  obtain ⟨cs, hcs, hcr⟩ := fnOf_rel hf h1
  have hrun := run_call (P := P) (w := w) (o := ⟨dst, callOp fo args tys, type, pos, after, none⟩) rfl hcs he
  have hargs : Rvals X w ρ (args.map (evo t) ++ caps) (args.map a.eval ++ cs) := (Rvals_map args fun y hy => h2 y hy).append hcr
  rw [hv] at hargs
  refine ⟨f, _, hrun, ?_⟩
  refine (hc (owned X ρ) w [] _ (Inv.empty (hg := hi.gd.nil fun _ h => free_owned.2 h) fun b h => by
      rcases h with h | ⟨r, hr', hb'⟩
      · exact hi.out b h
      · obtain ⟨i, hi', rfl⟩ := List.getElem_of_mem hr'; exact (hi.new i _ b (List.getElem?_eq_getElem hi') hb').1)
    (Rvals.eyes (fun b h => free_owned.2 h) vargs hk _ hargs)).mono ?_
  rintro e w' ⟨v, x', m'', ρ', rfl, ⟨rfl, rfl⟩, k1, k2, k3⟩
  have hfree : ∀ b, Free (owned X ρ) ρ' b → Free X (ρ ++ ρ') b := by
    rintro b ⟨g1, g2⟩
    refine ⟨fun hx => g1 (.inl hx), fun r hr' hb => ?_⟩
    rcases List.mem_append.1 hr' with h | h
    · exact g1 (.inr ⟨r, h, hb⟩)
    · exact g2 r h hb
  obtain ⟨t1, t2⟩ := hi.join k3 k2 hfree
  have hx := (Rp.shift (w := w') hfree x').1 v k1
  rw [hi.len] at hx
  exact ⟨v, rfl, ρ ++ ρ', hx, t2, t1⟩
section
variable {gds : List (Option Nat)} {ops l : List Oper} {es : List Nat} {m : Mem} {Z : List Bool → Mem} {n k : Nat} {t t' : List (Nat × AV)} {o : Oper} {x : AV} {p : Prop}
theorem AbsM.pureZ (h1 : dstB n o.dst = true) (hk : es.contains k = false) (hsl : isSlc o.op = false) (h2 : stepA P gds t m o = some (x, p)) (h3 : p) (h4 : AbsM P gds ops es (fun b => m ++ Z b) n (k + 1) l (upd t o.dst x) t') : AbsM P gds ops es (fun b => m ++ Z b) n k (o :: l) t t' :=
  .cons (dstB_ok h1) (fun bits hb => by
    have hl : bits.length = es.length := allB_len (List.mem_filter.1 hb).1
    rw [setB_not hk bits hl]
    exact (stepA_yield (stepA_app (Z bits) hsl h2) h3).stepAt) h4
theorem AbsM.evtZ {b0 b1 : List Bool} (h1 : dstB n o.dst = true) (hc : (consL ops es k == [b0]) = true) (hs : setB es k b0 = b1) (h2 : StepAt P gds t (m ++ Z b0) o (m ++ Z b1) x) (h4 : AbsM P gds ops es (fun b => m ++ Z b) n (k + 1) l (upd t o.dst x) t') : AbsM P gds ops es (fun b => m ++ Z b) n k (o :: l) t t' :=
  .cons (dstB_ok h1) (fun bits hb => by
    have hc := eq_of_beq hc
    rw [hc] at hb
    have : bits = b0 := by simpa using hb
    subst this
    rw [hs]; exact h2) h4
end
/-- what lies behind the entries that stay: before, between and behind two events -/
def lay2 (Z0 Z1 Z2 : Mem) : List Bool → Mem
  | [true, true] => Z2
  | [true, false] => Z1
  | _ => Z0
/-- a region with a call at place c that lays the entries F, and an allocation at place b into the entry before them -/
theorem Wp.runF2 (c b : Nat) (F : Mem) (B : Ent) {r : Option Nat} {Q : Exit → S → Prop} {s : S} {id : Nat} {ops : List Oper} {gds : List (Option Nat)} {t1 : List (Nat × AV)} (hm : P.follows .mixedOrders = true) (hg : ops.map (·.dst) = gds) (hB : gds.all (dstB s.n) = true)
    (hord : ordB gds ops ops.length = true) (hes : [c, b].all (fun e => decide (e < ops.length)) = true)
    (habs : AbsM P gds ops [c, b] (fun z => s.m ++ lay2 [vacE] (vacE :: F) (B :: F) z) s.n 0 ops s.t t1) (h : Q .normal ⟨t1, s.m ++ B :: F, s.n, s.d⟩) : Wp P r (.region id ops.toArray true) Q s := by
  refine Wp.vacs 1 ?_
  exact Wp.runM [c, b] (fun z => s.m ++ lay2 [vacE] (vacE :: F) (B :: F) z) (s := { s with m := s.m ++ List.replicate 1 vacE }) hm hg hB hord hes rfl habs h
theorem AbsM.callZ {gds : List (Option Nat)} {ops l : List Oper} {m F m' : Mem} {B : Ent} {n k c b : Nat} {t t' : List (Nat × AV)} {x : AV} {fo : Operand} {args : List Operand} {tys : Array TypeId} {dst : Option Nat} {type : TypeId} {pos : String} {after : Array Edge} {f : FuncId} {caps vargs : List AV}
    (h1 : dstB n dst = true) (hc : (consL ops [c, b] k == [[false, false]]) = true) (hs : setB [c, b] k [false, false] = [true, false])
    (hf : fnOf (evo t fo) = some (f, caps)) (he : Enters P f) (hv : args.map (evo t) ++ caps = vargs) (hk : okL 0 vargs) (hsp : Spec P f vargs [] fun x' m'' => x' = x ∧ m'' = m')
    (hF : (m'.map fun (e : Ent) => (⟨e.ver, e.kind.shift (m.length + 1)⟩ : Ent)) = F)
    (h4 : AbsM P gds ops [c, b] (fun z => m ++ lay2 [vacE] (vacE :: F) (B :: F) z) n (k + 1) l (upd t dst (x.shift (m.length + 1))) t') : AbsM P gds ops [c, b] (fun z => m ++ lay2 [vacE] (vacE :: F) (B :: F) z) n k (⟨dst, callOp fo args tys, type, pos, after, none⟩ :: l) t t' :=
  .evtZ h1 hc hs (by
    have h := Spec.stepF (P := P) (gds := gds) (t := t) (m := m ++ [vacE]) (dst := dst) (tys := tys) (type := type) (pos := pos) (after := after) he hf hv hk hsp
    rw [List.length_append, List.length_singleton, hF, List.append_assoc] at h
    exact h) h4
theorem AbsM.boxZ {gds : List (Option Nat)} {ops l : List Oper} {m F : Mem} {n k c b sz : Nat} {row : List AV} {q : Option Nat} {t t' : List (Nat × AV)} {p : Prop} {dst : Option Nat} {op : Op} {type : TypeId} {pos : String} {after : Array Edge}
    (h1 : dstB n dst = true) (hc : (consL ops [c, b] k == [[true, false]]) = true) (hs : setB [c, b] k [true, false] = [true, true])
    (h2 : alcA P (evo t) op = some (sz, row, q, p)) (hp : p)
    (h4 : AbsM P gds ops [c, b] (fun z => m ++ lay2 [vacE] (vacE :: F) ((⟨1, .row sz row⟩ : Ent) :: F) z) n (k + 1) l (upd t dst (alcV m.length 1 q)) t') : AbsM P gds ops [c, b] (fun z => m ++ lay2 [vacE] (vacE :: F) ((⟨1, .row sz row⟩ : Ent) :: F) z) n k (⟨dst, op, type, pos, after, none⟩ :: l) t t' :=
  .evtZ h1 hc hs (by
    have h := alcA_step (P := P) (gds := gds) (t := t) (m := m ++ vacE :: F) (dst := dst) (type := type) (pos := pos) (after := after) h2 hp (id := m.length) (ver := 0) (k0 := .row 1 []) (by simp [vacE])
    rw [List.set_append_right _ _ (Nat.le_refl _), Nat.sub_self] at h
    exact h) h4
end Go.Vg
set_option maxHeartbeats 16000000
namespace Go.Proofs.Tryz
open Go.Vg

/-! the keeper -/
abbrev kC (r : Rm) (f s : St) (a : Int) : List AV := [.strs r.ps, .lst 4 (r.ts.map thA), .lst 3 (r.pp.map ppA), .lst 3 (r.wy.map wyA), .lst 8 (r.ac.map acA), .lst 3 (r.au.map auA), .int r.n, .lst 3 (r.goal.map ltA), .ints f.ts, .ints f.pp, .ints f.pl, .ints s.ts, .ints s.pp, .ints s.pl, .int a]
abbrev kO (r : Rm) (f : St) (x y z a : AV) : List AV := [.strs r.ps, .lst 4 (r.ts.map thA), .lst 3 (r.pp.map ppA), .lst 3 (r.wy.map wyA), .lst 8 (r.ac.map acA), .lst 3 (r.au.map auA), .int r.n, .lst 3 (r.goal.map ltA), .ints f.ts, .ints f.pp, .ints f.pl, x, y, z, a]
theorem copied_spec (s : St) (hs : Zs s) : Go.Vg.Spec Tryz.prog 53 [stA s] [] (fun x m' => x = .agg [.osl 2 1 0 s.ts.length, .osl 3 1 0 s.pp.length, .osl 4 1 0 s.pl.length] ∧ m' = cpM s) := by
  have y1 := hs.ts
  have y2 := hs.pp
  have y3 := hs.pl
  unfold stA
  (refine Spec.of_bodyA Tryz.func53 rfl (by rw [Tryz.ntmps53]; simp) ?_; rw [Tryz.results53, Tryz.ntmps53]; simp only [entry, zipArgs, Nat.reduceAdd])
  ((refine w_pre ?_); (iterate 2 (refine w_nr ?_)); (refine w_nil ?_))
  (refine w_fzP (slq 1) ?_)
  repeat (first | apply Wp.seq | apply Wp.block)
  (apply Wp.runGE 3 10 mixed; (dsimp only [List.map] <;> exact rfl); exact rfl; kernel_rfl; (dsimp only [List.take] <;> exact rfl); (dsimp only [List.drop] <;> exact rfl); kernel_rfl; ((try dsimp only [List.replicate]); ((refine w_gp1 ?_); (refine w_gp1 ?_); (apply AbsG.fresh 0; exact rfl; (exact w_ev); (exact (Enters.of Tryz.func91 rfl rfl)); (exact clone_spec s.ts (by omega)); (exact VwL.cons (Vw.self (ok_ints 0 _)) VwL.nil); (simp only [push_cast, seval] <;> first | trivial | (simp; done)); exact rfl; dsimp only [upd, List.set, List.length_cons, List.length_nil, Nat.reduceAdd]); (refine w_gp1 ?_); (refine w_gp1 ?_); (apply AbsG.fresh 1; exact rfl; (exact w_ev); (exact (Enters.of Tryz.func91 rfl rfl)); (exact clone_spec s.pp (by omega)); (exact VwL.cons (Vw.self (ok_ints 0 _)) VwL.nil); (simp only [push_cast, seval] <;> first | trivial | (simp; done)); exact rfl; dsimp only [upd, List.set, List.length_cons, List.length_nil, Nat.reduceAdd]); (refine w_gp1 ?_); (refine w_gp1 ?_); (apply AbsG.fresh 2; exact rfl; (exact w_ev); (exact (Enters.of Tryz.func91 rfl rfl)); (exact clone_spec s.pl (by omega)); (exact VwL.cons (Vw.self (ok_ints 0 _)) VwL.nil); (simp only [push_cast, seval] <;> first | trivial | (simp; done)); exact rfl; dsimp only [upd, List.set, List.length_cons, List.length_nil, Nat.reduceAdd]); (refine w_gp ?_)); exact AbsG.nil); kernel_rfl; exact rfl; ((try dsimp only [List.cons_append, List.nil_append]); (exact w_ev)); ((try simp only [push_cast, seval]) <;> exact sT); dsimp only [upd])
  (refine w_go ?_)
  (first | exact w_retA | refine w_retAZ ?_)
def begE (r : Rm) (s : St) : Int := orE (bgE r) (csE r s)
theorem begE_zero {r : Rm} {s : St} (h : begE r s = 0) : bgE r = 0 ∧ csE r s = 0 := orE_zero h
abbrev begM (r : Rm) (s : St) : Mem := [⟨1, .row 8 []⟩, ⟨1, .row 3 []⟩, ⟨0, .row 3 [stA (bgS r)]⟩, ⟨1, .row 15 [.agg (kO r (bgS r) (.osl 6 1 0 s.ts.length) (.osl 7 1 0 s.pp.length) (.osl 8 1 0 s.pl.length) (.int 0))]⟩,
  ⟨1, .row 3 []⟩, ⟨0, .row 3 [.agg [.osl 6 1 0 s.ts.length, .osl 7 1 0 s.pp.length, .osl 8 1 0 s.pl.length]]⟩, ⟨1, .row 1 (s.ts.map AV.int)⟩, ⟨1, .row 1 (s.pp.map AV.int)⟩, ⟨1, .row 1 (s.pl.map AV.int)⟩]
theorem begin_spec {r : Rm} (hz : Sz r) {s : St} (hs : Zs s) (h : begE r s = 0) : Go.Vg.Spec Tryz.prog 46 [rmA r, stA s] [] (fun x m' => x = .tup [.optr 3 1 0 0, .int 0] ∧ m' = begM r s) := by
  obtain ⟨h1, h2⟩ := begE_zero h
  have c0 := Begin_pure hz
  have c1 := checkState_pure hz hs
  have c2 := copied_spec s hs
  unfold bgA at c0
  rw [h1, if_pos rfl] at c0
  rw [h2] at c1
  generalize hf : bgS r = f at *
  have hF : ((cpM s).map fun (e : Ent) => (⟨e.ver, e.kind.shift (3 + 1)⟩ : Ent)) = [⟨1, .row 3 []⟩, ⟨0, .row 3 [.agg [.osl 6 1 0 s.ts.length, .osl 7 1 0 s.pp.length, .osl 8 1 0 s.pl.length]]⟩, ⟨1, .row 1 (s.ts.map AV.int)⟩, ⟨1, .row 1 (s.pp.map AV.int)⟩, ⟨1, .row 1 (s.pl.map AV.int)⟩] := by
    simp only [List.map_cons, List.map_nil, Kind.shift, shiftL, AV.shift, shiftL_int, Nat.reduceAdd]
  unfold rmA rmC stA at *
  (refine Spec.of_bodyA Tryz.func46 rfl (by rw [Tryz.ntmps46]; simp) ?_; rw [Tryz.results46, Tryz.ntmps46]; simp only [entry, zipArgs, Nat.reduceAdd])
  ((refine w_pre ?_); (iterate 4 (refine w_nr ?_)); (refine w_nil ?_))
  (refine w_fzP (slq 2) ?_)
  (refine w_fzP (slq 3) ?_)
  (refine w_go ?_)
  (apply Run.pureFP; (exact w_ev); (exact (Enters.of Tryz.func64 rfl rfl)); (exact c0); (exact w_al); (try dsimp only [putA, optG]))
  (refine w_gg ?_)
  (apply Run.pureP; (exact w_ev); (exact (Enters.of Tryz.func87 rfl rfl)); (exact c1); (exact w_al); (try dsimp only [putA, optG]))
  (refine w_gg ?_)
  (apply Wp.runF2 3 5 [⟨1, .row 3 []⟩, ⟨0, .row 3 [.agg [.osl 6 1 0 s.ts.length, .osl 7 1 0 s.pp.length, .osl 8 1 0 s.pl.length]]⟩, ⟨1, .row 1 (s.ts.map AV.int)⟩, ⟨1, .row 1 (s.pp.map AV.int)⟩, ⟨1, .row 1 (s.pl.map AV.int)⟩] _ mixed; (dsimp only [List.map] <;> exact rfl); exact rfl; kernel_rfl; exact rfl; (((refine w_fz1 ?_); (refine w_fz1 ?_); (refine w_fz1 ?_); (apply AbsM.callZ; exact rfl; kernel_rfl; exact rfl; (exact w_ev); (exact (Enters.of Tryz.func53 rfl rfl)); (simp only [push_cast, seval] <;> first | exact rfl | assumption); (focus (simp only [push_cast, seval] <;> first | trivial | assumption | (simp; done))); (exact c2); (first | exact hF | (simp only [List.length_cons, List.length_nil, Nat.reduceAdd]; exact hF)); dsimp only [upd, AV.shift, shiftL, List.length_cons, List.length_nil, Nat.reduceAdd]); (refine w_fz1 ?_); (refine w_fzb ?_); (refine w_fz1 ?_); (refine w_fz1 ?_)); exact AbsM.nil); (try dsimp only [List.cons_append, List.nil_append]))
  (refine w_go ?_)
  (first | exact w_retA | refine w_retAZ ?_)
  subst hf; rfl
theorem begin_pure {r : Rm} (hz : Sz r) {s : St} (hs : Zs s) (h : begE r s = 0) : Pure Tryz.prog 46 [rmA r, stA s] (.tup [.ref (kC r (bgS r) s 0) 0, .int 0]) := by
  refine Spec.frz ((begin_spec hz hs h).mono ?_)
  rintro _ _ ⟨rfl, rfl⟩
  refine Vw.tup (.cons (Vw.optr rfl rfl (by simp [AV.cells]) ?_) (.cons (Vw.self trivial) .nil))
  have h1 : VwL (begM r s) [.strs r.ps, .lst 4 (r.ts.map thA), .lst 3 (r.pp.map ppA), .lst 3 (r.wy.map wyA), .lst 8 (r.ac.map acA), .lst 3 (r.au.map auA), .int r.n, .lst 3 (r.goal.map ltA), .ints (bgS r).ts, .ints (bgS r).pp, .ints (bgS r).pl] [.strs r.ps, .lst 4 (r.ts.map thA), .lst 3 (r.pp.map ppA), .lst 3 (r.wy.map wyA), .lst 8 (r.ac.map acA), .lst 3 (r.au.map auA), .int r.n, .lst 3 (r.goal.map ltA), .ints (bgS r).ts, .ints (bgS r).pp, .ints (bgS r).pl] :=
    VwL.okAll (by simp [okL, AV.ok, okL_str, okL_th, okL_pp, okL_wy, okL_ac, okL_au, okL_lt, okL_mapInt])
  exact VwL.app h1 (.cons (Vw.ointsR rfl rfl) (.cons (Vw.ointsR rfl rfl) (.cons (Vw.ointsR rfl rfl) (.cons (Vw.self trivial) .nil))))
theorem begin_err {r : Rm} (hz : Sz r) {s : St} (hs : Zs s) (h : begE r s ≠ 0) : Pure Tryz.prog 46 [rmA r, stA s] (.tup [.val (.pointer none), .int (begE r s)]) := by
  have c0 := Begin_pure hz
  have c1 := checkState_pure hz hs
  unfold bgA at c0
  by_cases h1 : bgE r = 0
  · rw [h1, if_pos rfl] at c0
    have he : begE r s = csE r s := orE_ok h1
    rw [he] at h ⊢
    have e2 : decide (csE r s = 0) = false := decide_eq_false h
    generalize csE r s = e at *
    generalize bgS r = f at *
    unfold rmA rmC stA at *
    (refine Spec.bd 0 Tryz.func46 Tryz.results46 Tryz.ntmps46 ?_; simp only [entry, zipArgs, Nat.reduceAdd])
    ((refine x_pre (zc @e2 @Bool.not_false) ?_); (iterate 4 (refine x_nr (zc @e2 @Bool.not_false) ?_)); (refine x_nil (zc @e2 @Bool.not_false) ?_))
    (refine x_fzP (zc @e2 @Bool.not_false) (slq 2) ?_)
    (refine x_fzP (zc @e2 @Bool.not_false) (slq 3) ?_)
    (refine x_go (zc @e2 @Bool.not_false) ?_)
    (apply Run.pureFP; (exact x_ev (zc @e2 @Bool.not_false)); (exact (Enters.of Tryz.func64 rfl rfl)); (exact c0); (exact x_al (zc @e2 @Bool.not_false)); (try dsimp only [putA, optG]))
    (refine x_gg (zc @e2 @Bool.not_false) ?_)
    (apply Run.pureP; (exact x_ev (zc @e2 @Bool.not_false)); (exact (Enters.of Tryz.func87 rfl rfl)); (exact c1); (exact x_al (zc @e2 @Bool.not_false)); (try dsimp only [putA, optG]))
    (refine x_gg (zc @e2 @Bool.not_false) ?_)
    (first | exact x_ret (zc @e2 @Bool.not_false) | refine x_retZ (zc @e2 @Bool.not_false) ?_)
  · rw [if_neg h1] at c0
    have he : begE r s = bgE r := orE_no h1
    rw [he] at h ⊢
    have e2 : decide (bgE r = 0) = false := decide_eq_false h
    generalize bgE r = e at *
    unfold rmA rmC stA at *
    (refine Spec.bd 0 Tryz.func46 Tryz.results46 Tryz.ntmps46 ?_; simp only [entry, zipArgs, Nat.reduceAdd])
    ((refine x_pre (zc @e2 @Bool.not_false) ?_); (iterate 4 (refine x_nr (zc @e2 @Bool.not_false) ?_)); (refine x_nil (zc @e2 @Bool.not_false) ?_))
    (refine x_fzP (zc @e2 @Bool.not_false) (slq 2) ?_)
    (refine x_fzP (zc @e2 @Bool.not_false) (slq 3) ?_)
    (refine x_go (zc @e2 @Bool.not_false) ?_)
    (apply Run.pureFP; (exact x_ev (zc @e2 @Bool.not_false)); (exact (Enters.of Tryz.func64 rfl rfl)); (exact c0); (exact x_al (zc @e2 @Bool.not_false)); (try dsimp only [putA, optG]))
    (refine x_gg (zc @e2 @Bool.not_false) ?_)
    (first | exact x_ret (zc @e2 @Bool.not_false) | refine x_retZ (zc @e2 @Bool.not_false) ?_)
end Go.Proofs.Tryz
set_option maxHeartbeats 16000000
namespace Go.Proofs.Tryz
open Go.Vg

theorem lists_eq {a b : List Int} (h : a.length = b.length) (k : ∀ j, j < a.length → a.getD j 0 = b.getD j 0) : a = b := by
  apply List.ext_getElem h
  intro j h3 h4
  have := k j h3
  simpa [h3, h4] using this
theorem equal_pure (a b : List Int) (hl : a.length ≤ 1000) : Pure Tryz.prog 73 [.ints a, .ints b] (.bool (decide (a = b))) := by
  (refine Spec.bd 0 Tryz.func73 Tryz.results73 Tryz.ntmps73 ?_; simp only [entry, zipArgs, Nat.reduceAdd])
  (refine w_go ?_)
  (apply Wp.cond; (exact w_ev))
  · intro hc
    have hc : ¬ a.length = b.length := by simp at hc; omega
    (refine w_go ?_)
    (first | exact w_ret | refine w_retZ ?_)
    rw [decide_eq_false]
    intro h
    rw [h] at hc
    exact hc rfl
  · intro hc
    have hc : a.length = b.length := by simp at hc; omega
    (refine w_go ?_)
    refine Wp.loop (fun k : Nat => { t := [(0, .ints a), (1, .ints b), (12, .int a.length), (13, .int k)], m := [], n := 26 }) (fun k => k ≤ a.length ∧ ∀ j, j < k → a.getD j 0 = b.getD j 0) (fun k => a.length - k) 0 ?_ ?_ ?_
    · (refine Le.of ?_ ?_ rfl rfl <;> (try simp only [push_cast, seval]) <;> (try (with_reducible rfl)))
    · simp
    · rintro k ⟨hk1, hk2⟩
      (refine w_go ?_)
      (apply Wp.cond; (exact w_ev))
      · intro hk
        have hk : k < a.length := by simp only [decide_eq_true_eq] at hk; omega
        generalize hx : a.getD k 0 = x
        generalize hy : b.getD k 0 = y
        (refine x_go (zc @hx @hy) ?_)
        (refine Wp.rnD 9 ?_; apply exAb; (((refine x_abn (zc @hx @hy) ?_)); exact Abn.nil))
        (refine x_go (zc @hx @hy) ?_)
        (apply Wp.cond; (exact x_ev (zc @hx @hy)))
        · intro h2
          (refine x_go (zc @hx @hy) ?_)
          (first | exact x_ret (zc @hx @hy) | refine x_retZ (zc @hx @hy) ?_)
          rw [decide_eq_false]
          intro h
          rw [h, hy] at hx
          rw [hx] at h2
          simp at h2
        · intro h2
          (refine x_go (zc @hx @hy) ?_)
          refine ⟨k + 1, ?_, ⟨by omega, fun j hj => ?_⟩, by omega⟩
          · (refine Le.of ?_ ?_ rfl rfl <;> (try simp only [push_cast, seval, hx, hy]) <;> (try (with_reducible rfl)))
          · by_cases hjk : j = k
            · subst hjk; rw [hx, hy]; simpa using h2
            · exact hk2 j (by omega)
      · intro hk
        obtain rfl : k = a.length := by simp only [decide_eq_false_iff_not] at hk; omega
        (refine w_go ?_)
        (first | exact w_ret | refine w_retZ ?_)
        rw [decide_eq_true (lists_eq hc hk2)]
theorem sameInts_pure (a b : List Int) (hl : a.length ≤ 1000) : Pure Tryz.prog 25 [.ints a, .ints b] (.bool (decide (a = b))) := by
  (refine Spec.bd 0 Tryz.func25 Tryz.results25 Tryz.ntmps25 ?_; simp only [entry, zipArgs, Nat.reduceAdd])
  (refine w_go ?_)
  (apply Wp.cond; (exact w_ev))
  · intro hc
    have hc : ¬ a.length = b.length := by simp at hc; omega
    (refine w_go ?_)
    (first | exact w_ret | refine w_retZ ?_)
    rw [decide_eq_false]
    intro h
    rw [h] at hc
    exact hc rfl
  · intro hc
    have hc : a.length = b.length := by simp at hc; omega
    (refine w_go ?_)
    refine Wp.loop (fun k : Nat => { t := [(0, .ints a), (1, .ints b), (5, .int k)], m := [], n := 26 }) (fun k => k ≤ a.length ∧ ∀ j, j < k → a.getD j 0 = b.getD j 0) (fun k => a.length - k) 0 ?_ ?_ ?_
    · (refine Le.of ?_ ?_ rfl rfl <;> (try simp only [push_cast, seval]) <;> (try (with_reducible rfl)))
    · simp
    · rintro k ⟨hk1, hk2⟩
      (refine w_go ?_)
      (apply Wp.cond; (exact w_ev))
      · intro hk
        have hk : k < a.length := by simp only [decide_eq_true_eq] at hk; omega
        generalize hx : a.getD k 0 = x
        generalize hy : b.getD k 0 = y
        (refine x_go (zc @hx @hy) ?_)
        (refine Wp.rnD 9 ?_; apply exAb; (((refine x_abn (zc @hx @hy) ?_)); exact Abn.nil))
        (refine x_go (zc @hx @hy) ?_)
        (apply Wp.cond; (exact x_ev (zc @hx @hy)))
        · intro h2
          (refine x_go (zc @hx @hy) ?_)
          (first | exact x_ret (zc @hx @hy) | refine x_retZ (zc @hx @hy) ?_)
          rw [decide_eq_false]
          intro h
          rw [h, hy] at hx
          rw [hx] at h2
          simp at h2
        · intro h2
          (refine x_go (zc @hx @hy) ?_)
          refine ⟨k + 1, ?_, ⟨by omega, fun j hj => ?_⟩, by omega⟩
          · (refine Le.of ?_ ?_ rfl rfl <;> (try simp only [push_cast, seval, hx, hy]) <;> (try (with_reducible rfl)))
          · by_cases hjk : j = k
            · subst hjk; rw [hx, hy]; simpa using h2
            · exact hk2 j (by omega)
      · intro hk
        obtain rfl : k = a.length := by simp only [decide_eq_false_iff_not] at hk; omega
        (refine w_go ?_)
        (first | exact w_ret | refine w_retZ ?_)
        rw [decide_eq_true (lists_eq hc hk2)]
/-- the state is that of the beginning -/
def rsB (f s : St) : Bool := decide (s.ts = f.ts) && decide (s.pp = f.pp)
theorem reset_pure (r : Rm) (f s : St) (hs : Zs s) (a : Int) : Pure Tryz.prog 51 [.ref (kC r f s a) 0] (.bool (rsB f s)) := by
  have h1 := equal_pure s.ts f.ts (by have := hs.ts; omega)
  have h2 := equal_pure s.pp f.pp (by have := hs.pp; omega)
  unfold rsB
  (refine Spec.bd 0 Tryz.func51 Tryz.results51 Tryz.ntmps51 ?_; simp only [entry, zipArgs, Nat.reduceAdd])
  (refine w_go ?_)
  (refine Wp.rnD 25 ?_; apply exAb; (((refine w_abn ?_); (apply Abn.pureP; (exact w_ev); (exact (Enters.of Tryz.func73 rfl rfl)); (exact h1); (exact w_al); (try dsimp only [putA, optG])); (refine w_abn ?_); (apply Abn.pureP; (exact w_ev); (exact (Enters.of Tryz.func73 rfl rfl)); (exact h2); (exact w_al); (try dsimp only [putA, optG])); (refine w_abn ?_)); exact Abn.nil))
  (refine w_go ?_)
  (first | exact w_ret | refine w_retZ ?_)
theorem kholds_pure {r : Rm} (hz : Sz r) (f : St) {s : St} (hs : Zs s) (hc : csE r s = 0) (a : Int) (c : List Lt) (hcl : c.length ≤ 20) (hcd : cdB r.ts c = true) : Pure Tryz.prog 90 [.ref (kC r f s a) 0, cdA c] (.bool (hdB s.ts c)) := by
  have h1 := Holds_pure hz hs hc c hcl hcd
  unfold rmA rmC stA at h1
  (refine Spec.bd 0 Tryz.func90 Tryz.results90 Tryz.ntmps90 ?_; simp only [entry, zipArgs, Nat.reduceAdd])
  (refine w_go ?_)
  (refine Wp.rnD 15 ?_; apply exAb; (((refine w_abn ?_); (apply Abn.pureP; (exact w_ev); (exact (Enters.of Tryz.func108 rfl rfl)); (exact h1); (exact w_al); (try dsimp only [putA, optG])); (refine w_abn ?_)); exact Abn.nil))
  (refine w_go ?_)
  (first | exact w_ret | refine w_retZ ?_)
end Go.Proofs.Tryz
set_option maxHeartbeats 16000000
namespace Go.Proofs.Tryz
open Go.Vg

def tsVB (ts : List Th) (l : List Int) : Prop := ∀ i, i < l.length → 0 ≤ l.getD i 0 ∧ l.getD i 0 ≤ (ts.getD i th0).ss - 1
theorem stl_val {ts : List Th} {au : List Au} (ha : ∀ a ∈ au, stB ts a.th a.st = true) : ∀ {n : Nat} {l l2 : List Int}, stl au n l = some l2 → tsVB ts l → tsVB ts l2
  | 0, l, l2, h, _ => by cases h
  | n + 1, l, l2, h, hv => by
    unfold stl at h
    split at h
    · cases h; exact hv
    · rename_i a hf
      refine stl_val ha h ?_
      have h1 := ha a (List.mem_of_find?_eq_some hf)
      unfold stB at h1
      simp only [Bool.and_eq_true, wi_iff] at h1
      intro i hi
      rw [List.length_set] at hi
      by_cases e : a.th.toNat = i
      · subst e
        have : (l.set a.th.toNat a.st).getD a.th.toNat 0 = a.st := by simp [hi]
        rw [this]; exact h1.2
      · have : (l.set a.th.toNat a.st).getD i 0 = l.getD i 0 := by
          simp [List.getD_eq_getElem?_getD, List.getElem?_set_ne e]
        rw [this]; exact hv i hi
theorem bg_ok {r : Rm} (h : bgE r = 0) : chE r = 0 ∧ stl r.au 101 (r.ts.map Th.st) = some (bgS r).ts := by
  obtain ⟨h1, h2⟩ := orE_zero h
  refine ⟨h1, ?_⟩
  unfold bgS
  cases hs : stl r.au 101 (r.ts.map Th.st) with
  | none => rw [hs] at h2; cases h2
  | some t => rfl
theorem bg_SV {r : Rm} (h : bgE r = 0) : SV r (bgS r) := by
  obtain ⟨h1, h2⟩ := bg_ok h
  have hv := chE_RV h1
  have h0 := (cs_zero (bg0_cs h1)).2.1
  have hl := stl_len h2
  rw [List.length_map] at hl
  refine ⟨hl, h0.pp, h0.pl, ?_, h0.ppv, h0.plv⟩
  exact stl_val (fun a ha => (hv.auv a ha).1) h2 h0.tsv
theorem SV.zs {r : Rm} {s : St} (hz : Sz r) (hv : RV r) (h : SV r s) : Zs s := by
  have h1 := h.ts
  have h2 := h.pp
  have h3 := h.pl
  have z1 := hz.ts
  have z2 := hz.pp
  have z3 := hv.n
  exact ⟨by omega, by omega, by omega⟩
theorem away_pure (s : St) (h1 : s.ts.length ≤ 9223372036854775807) (h2 : s.pp.length ≤ 9223372036854775807) (h3 : s.pl.length ≤ 9223372036854775807) : Pure Tryz.prog 14 [stA s] (.bool (decide (30 < (s.ts.length : Int)) || decide (30 < (s.pp.length : Int)) || decide (30 < (s.pl.length : Int)))) := by
  unfold stA
  (refine Spec.bd 0 Tryz.func14 Tryz.results14 Tryz.ntmps14 ?_; simp only [entry, zipArgs, Nat.reduceAdd])
  (refine w_go ?_)
  (first | exact w_ret | refine w_retZ ?_)
end Go.Proofs.Tryz
set_option maxHeartbeats 16000000
namespace Go.Proofs.Tryz
open Go.Vg

theorem plainL_mapR {α : Type} {f : α → AV} (h : ∀ x, (f x).plain) : ∀ l : List α, plainL (l.map f) = True
  | [] => eq_true trivial
  | a :: l => by simp only [List.map_cons, plainL, plainL_mapR h l, h a, and_true]
theorem plainL_str (l : List ByteArray) : plainL (l.map AV.str) = True := plainL_mapR (fun x => by simp [AV.plain]) l
theorem plainL_se (l : List Se) : plainL (l.map seA) = True := plainL_mapR (fun x => by simp [seA, AV.plain, plainL]) l
theorem plainL_th (l : List Th) : plainL (l.map thA) = True := plainL_mapR (fun x => by simp [thA, AV.plain, plainL]) l
attribute [push_cast] plainL_str plainL_se plainL_th
theorem copyCond_pure (c : List Lt) (hc : c.length ≤ 1000) : Pure Tryz.prog 56 [cdA c] (cdA c) := by
  (refine Spec.bd 0 Tryz.func56 Tryz.results56 Tryz.ntmps56 ?_; simp only [entry, zipArgs, Nat.reduceAdd])
  (refine w_go ?_)
  (apply Wp.freeze 2; (exact w_ev); (exact w_ev); (focus (try simp only [push_cast, seval]); (try (exact sT))); (focus (exact sT)))
  (first | exact w_ret | refine w_retZ ?_)
theorem copyInts_pure (c : List Int) (hc : c.length ≤ 1000) : Pure Tryz.prog 57 [.ints c] (.ints c) := by
  (refine Spec.bd 0 Tryz.func57 Tryz.results57 Tryz.ntmps57 ?_; simp only [entry, zipArgs, Nat.reduceAdd])
  (refine w_go ?_)
  (apply Wp.freeze 2; (exact w_ev); (exact w_ev); (focus (try simp only [push_cast, seval]); (try (exact sT))); (focus (exact sT)))
  (first | exact w_ret | refine w_retZ ?_)
theorem set_same {α : Type} {f : α → AV} (d : α) {l : List α} {k : Nat} (h : k < l.length) {x : α} (hx : l.getD k d = x) : (l.map f).set k (f x) = l.map f := by
  apply List.ext_getElem?
  intro i
  rw [List.getElem?_set]
  split
  · rename_i e
    subst e
    rw [← hx]
    simp [h]
  · rfl
theorem Vw.rowR {m : Mem} {id ver n sz : Nat} {l : List AV} (h : m[id]? = some ⟨ver, .row sz l⟩) (hk : okL 0 l) (hn : n = l.length) (hs : 0 < sz) : Vw m (.osl id ver 0 n) (.lst sz l) := by
  refine Vw.osl h (by omega) hs ?_
  rw [List.drop_zero, List.take_of_length_le (by omega)]
  exact VwL.okAll hk
theorem Copy_pure {r : Rm} (hz : Sz r) : Pure Tryz.prog 17 [rmA r] (rmA r) := by
  have z1 := hz.ps
  have z2 := hz.ts
  have z3 := hz.pp
  have z4 := hz.wy
  have z5 := hz.ac
  have z6 := hz.au
  have z7 := hz.gl
  have c0 := copyCond_pure r.goal (by omega)
  refine Spec.frz ?_
  unfold rmA rmC at *
  (refine Spec.of_bodyA Tryz.func17 rfl (by rw [Tryz.ntmps17]; simp) ?_; rw [Tryz.results17, Tryz.ntmps17]; simp only [entry, zipArgs, Nat.reduceAdd])
  ((refine w_pre ?_); (iterate 2 (refine w_nr ?_)); (refine w_nil ?_))
  (refine w_fzP (slq 1) ?_)
  repeat (first | apply Wp.seq | apply Wp.block)
  (apply Wp.runG 5 mixed; (dsimp only [List.map] <;> exact rfl); exact rfl; kernel_rfl; ((try dsimp only [List.replicate]); ((refine w_gl0 ?_); (refine w_gp1 ?_); (refine w_gp1 ?_); (refine w_gapf ?_); (refine w_gl0 ?_); (refine w_gp1 ?_); (refine w_gp1 ?_); (refine w_gapf ?_); (refine w_gl0 ?_); (refine w_gp1 ?_); (refine w_gp1 ?_); (apply AbsG.apn 0; exact rfl; (exact w_ev); ((try simp only [push_cast, seval]) <;> exact sT); exact rfl; dsimp only [upd, alcV, List.set, List.length_cons, List.length_nil, Nat.reduceAdd]); (refine w_gl0 ?_); (refine w_gp1 ?_); (refine w_gp1 ?_); (apply AbsG.apn 1; exact rfl; (exact w_ev); ((try simp only [push_cast, seval]) <;> exact sT); exact rfl; dsimp only [upd, alcV, List.set, List.length_cons, List.length_nil, Nat.reduceAdd]); (refine w_gl0 ?_); (refine w_gp1 ?_); (refine w_gp1 ?_); (apply AbsG.apn 2; exact rfl; (exact w_ev); ((try simp only [push_cast, seval]) <;> exact sT); exact rfl; dsimp only [upd, alcV, List.set, List.length_cons, List.length_nil, Nat.reduceAdd]); (refine w_gl0 ?_); (refine w_gp1 ?_); (refine w_gp1 ?_); (apply AbsG.apn 3; exact rfl; (exact w_ev); ((try simp only [push_cast, seval]) <;> exact sT); exact rfl; dsimp only [upd, alcV, List.set, List.length_cons, List.length_nil, Nat.reduceAdd]); (refine w_gp1 ?_); (refine w_gp1 ?_); (refine w_gp1 ?_); (refine w_gp1 ?_); (apply AbsG.callF; exact rfl; (exact w_ev); (exact (Enters.of Tryz.func56 rfl rfl)); (exact c0); (exact w_al); (try dsimp only [upd, optG])); (refine w_gp1 ?_); (apply AbsG.new 4; exact rfl; (exact w_ev); ((try simp only [push_cast, seval]) <;> exact sT); exact rfl; dsimp only [upd, alcV, List.set, List.length_cons, List.length_nil, Nat.reduceAdd]); (apply AbsG.eff 4; exact rfl; exact rfl; (exact w_ev); ((try simp only [push_cast, seval]) <;> exact sT); dsimp only [upd, List.set, List.length_cons, List.length_nil, Nat.reduceAdd])); exact AbsG.nil); kernel_rfl; (try dsimp only [List.cons_append, List.nil_append]))
  (refine w_go ?_)
  refine Wp.loop (fun k : Nat => { t := [(1, .ref (rmC r) 0), (2, .optr 1 0 0 0), (3, .optr 6 1 0 0), (4, .int k)], m := [⟨1, .row 8 []⟩, ⟨0, .row 8 [.agg [.emp, .emp, .emp, .emp, .emp, .emp, .int 0, .emp]]⟩, ⟨1, .row 3 (r.pp.map ppA)⟩, ⟨1, .row 3 (r.wy.map wyA)⟩, ⟨1, .row 8 (r.ac.map acA)⟩, ⟨1, .row 3 (r.au.map auA)⟩, ⟨1, .row 8 [.agg [.strs r.ps, .lst 4 (r.ts.map thA), .osl 2 1 0 r.pp.length, .osl 3 1 0 r.wy.length, .osl 4 1 0 r.ac.length, .osl 5 1 0 r.au.length, .int r.n, cdA r.goal]]⟩], n := 135 }) (fun k => k ≤ r.pp.length) (fun k => r.pp.length - k) 0 ?_ ?_ ?_
  · (refine Le.of ?_ ?_ rfl rfl <;> (try simp only [push_cast, seval]) <;> (try (with_reducible rfl)))
    all_goals (first | exact ⟨rfl, rfl⟩ | rfl)
  · simp
  · intro k hk1
    (refine x_go @rmC.eq_1 ?_)
    (apply Wp.cond; (exact x_ev @rmC.eq_1))
    · intro hk
      have hc : k < r.pp.length := by simp only [decide_eq_true_eq, List.length_map] at hk; omega
      have hw : (r.pp.getD k pp0).wh.length ≤ 20 := (hz.ppn _ (memPp hc)).2
      have c1 := copyCond_pure (r.pp.getD k pp0).wh (by omega)
      have hgd := fun d => getD_pp (d := d) hc
      have hset := set_same (f := ppA) pp0 hc rfl
      generalize hx : r.pp.getD k pp0 = x at *
      simp only [ppA] at hset hgd
      (refine x_go (zc @rmC.eq_1 (zc @hgd (zc @hset @lenMp))) ?_)
      (apply Wp.runGES 7 12 mixed; (dsimp only [List.map] <;> exact rfl); exact rfl; kernel_rfl; (dsimp only [List.take] <;> exact rfl); (dsimp only [List.drop] <;> exact rfl); (dsimp only [List.take] <;> exact rfl); (dsimp only [List.drop] <;> exact rfl); kernel_rfl; (((refine x_gp (zc @rmC.eq_1 (zc @hgd (zc @hset @lenMp))) ?_); (apply AbsG.callF; exact rfl; (exact x_ev (zc @rmC.eq_1 (zc @hgd (zc @hset @lenMp)))); (exact (Enters.of Tryz.func56 rfl rfl)); (exact c1); (exact x_al (zc @rmC.eq_1 (zc @hgd (zc @hset @lenMp)))); (try dsimp only [upd, optG])); (refine x_gp (zc @rmC.eq_1 (zc @hgd (zc @hset @lenMp))) ?_)); exact AbsG.nil); kernel_rfl; exact rfl; ((try dsimp only [List.cons_append, List.nil_append]); (exact x_ev (zc @rmC.eq_1 (zc @hgd (zc @hset @lenMp))))); ((try simp only [push_cast, seval, rmC, hgd, hset, List.length_map]) <;> exact sT); dsimp only [upd])
      (refine x_go (zc @rmC.eq_1 (zc @hgd (zc @hset @lenMp))) ?_)
      refine ⟨k + 1, ?_, by omega, by omega⟩
      (refine Le.of ?_ ?_ rfl rfl <;> (try simp only [push_cast, seval, rmC, hgd, hset, List.length_map]) <;> (try (with_reducible rfl)))
    · intro hk
      obtain rfl : k = r.pp.length := by simp only [decide_eq_false_iff_not, List.length_map] at hk; omega
      (refine x_go @rmC.eq_1 ?_)
      refine Wp.loop (fun k : Nat => { t := [(1, .ref (rmC r) 0), (2, .optr 1 0 0 0), (3, .optr 6 1 0 0), (5, .int k)], m := [⟨1, .row 8 []⟩, ⟨0, .row 8 [.agg [.emp, .emp, .emp, .emp, .emp, .emp, .int 0, .emp]]⟩, ⟨1, .row 3 (r.pp.map ppA)⟩, ⟨1, .row 3 (r.wy.map wyA)⟩, ⟨1, .row 8 (r.ac.map acA)⟩, ⟨1, .row 3 (r.au.map auA)⟩, ⟨1, .row 8 [.agg [.strs r.ps, .lst 4 (r.ts.map thA), .osl 2 1 0 r.pp.length, .osl 3 1 0 r.wy.length, .osl 4 1 0 r.ac.length, .osl 5 1 0 r.au.length, .int r.n, cdA r.goal]]⟩], n := 135 }) (fun k => k ≤ r.wy.length) (fun k => r.wy.length - k) 0 ?_ ?_ ?_
      · (refine Le.of ?_ ?_ rfl rfl <;> (try simp only [push_cast, seval, rmC]) <;> (try (with_reducible rfl)))
        all_goals (first | exact ⟨rfl, rfl⟩ | rfl)
      · simp
      · intro k hk1
        (refine x_go @rmC.eq_1 ?_)
        (apply Wp.cond; (exact x_ev @rmC.eq_1))
        · intro hk
          have hc : k < r.wy.length := by simp only [decide_eq_true_eq, List.length_map] at hk; omega
          have hw : (r.wy.getD k wy0).wh.length ≤ 20 := hz.wyn _ (memWy hc)
          have c1 := copyCond_pure (r.wy.getD k wy0).wh (by omega)
          have hgd := fun d => getD_wy (d := d) hc
          have hset := set_same (f := wyA) wy0 hc rfl
          generalize hx : r.wy.getD k wy0 = x at *
          simp only [wyA] at hset hgd
          (refine x_go (zc @rmC.eq_1 (zc @hgd (zc @hset @lenMp))) ?_)
          (apply Wp.runGES 7 12 mixed; (dsimp only [List.map] <;> exact rfl); exact rfl; kernel_rfl; (dsimp only [List.take] <;> exact rfl); (dsimp only [List.drop] <;> exact rfl); (dsimp only [List.take] <;> exact rfl); (dsimp only [List.drop] <;> exact rfl); kernel_rfl; (((refine x_gp (zc @rmC.eq_1 (zc @hgd (zc @hset @lenMp))) ?_); (apply AbsG.callF; exact rfl; (exact x_ev (zc @rmC.eq_1 (zc @hgd (zc @hset @lenMp)))); (exact (Enters.of Tryz.func56 rfl rfl)); (exact c1); (exact x_al (zc @rmC.eq_1 (zc @hgd (zc @hset @lenMp)))); (try dsimp only [upd, optG])); (refine x_gp (zc @rmC.eq_1 (zc @hgd (zc @hset @lenMp))) ?_)); exact AbsG.nil); kernel_rfl; exact rfl; ((try dsimp only [List.cons_append, List.nil_append]); (exact x_ev (zc @rmC.eq_1 (zc @hgd (zc @hset @lenMp))))); ((try simp only [push_cast, seval, rmC, hgd, hset, List.length_map]) <;> exact sT); dsimp only [upd])
          (refine x_go (zc @rmC.eq_1 (zc @hgd (zc @hset @lenMp))) ?_)
          refine ⟨k + 1, ?_, by omega, by omega⟩
          (refine Le.of ?_ ?_ rfl rfl <;> (try simp only [push_cast, seval, rmC, hgd, hset, List.length_map]) <;> (try (with_reducible rfl)))
        · intro hk
          obtain rfl : k = r.wy.length := by simp only [decide_eq_false_iff_not, List.length_map] at hk; omega
          (refine x_go @rmC.eq_1 ?_)
          (refine Wp.vacs 1 ?_; (try simp only [List.replicate_succ, List.replicate_zero, List.cons_append, List.nil_append]))
          refine Wp.loop (fun (q : Nat × Nat × Kind) => { t := [(1, .ref (rmC r) 0), (2, .optr 1 0 0 0), (3, .optr 6 1 0 0), (6, .int q.1)], m := [⟨1, .row 8 []⟩, ⟨0, .row 8 [.agg [.emp, .emp, .emp, .emp, .emp, .emp, .int 0, .emp]]⟩, ⟨1, .row 3 (r.pp.map ppA)⟩, ⟨1, .row 3 (r.wy.map wyA)⟩, ⟨1, .row 8 (r.ac.map acA)⟩, ⟨1, .row 3 (r.au.map auA)⟩, ⟨1, .row 8 [.agg [.strs r.ps, .lst 4 (r.ts.map thA), .osl 2 1 0 r.pp.length, .osl 3 1 0 r.wy.length, .osl 4 1 0 r.ac.length, .osl 5 1 0 r.au.length, .int r.n, cdA r.goal]]⟩, ⟨q.2.1, q.2.2⟩], n := 135 }) (fun q => q.1 ≤ r.ac.length) (fun q => r.ac.length - q.1) (0, 0, .row 1 []) ?_ ?_ ?_
          · (refine Le.of ?_ ?_ rfl rfl <;> (try simp only [push_cast, seval, rmC]) <;> (try (with_reducible rfl)))
            all_goals (first | exact ⟨rfl, rfl⟩ | rfl)
          · simp
          · rintro ⟨k, v, kd⟩ hk1
            simp only at hk1
            (refine x_go @rmC.eq_1 ?_)
            (apply Wp.cond; (exact x_ev @rmC.eq_1))
            · intro hk
              have hc : k < r.ac.length := by simp only [decide_eq_true_eq, List.length_map] at hk; omega
              obtain ⟨w1, w2, w3, w4, w5, w6⟩ := hz.acn _ (memAc hc)
              have hgd := fun d => getD_ac (d := d) hc
              have hset := set_same (f := acA) ac0 hc rfl
              generalize hx : r.ac.getD k ac0 = x at *
              have c1 := copyInts_pure x.us (by omega)
              have c2 := copyInts_pure x.sp (by omega)
              have c3 := copyInts_pure x.br (by omega)
              have c4 := copyCond_pure x.wh (by omega)
              simp only [acA, acC] at hset hgd
              (refine x_gs (zc @rmC.eq_1 (zc @hgd (zc @hset @lenMp))) ?_)
              (apply Run.alcAt 7; (exact x_ev (zc @rmC.eq_1 (zc @hgd (zc @hset @lenMp)))); ((try simp only [push_cast, seval, rmC, hgd, hset, List.length_map]) <;> exact sT); exact rfl; (try simp only [push_cast, seval, rmC, hgd, hset, List.length_map]))
              (refine x_go (zc @rmC.eq_1 (zc @hgd (zc @hset @lenMp))) ?_)
              (apply Run.pureFP; (exact x_ev (zc @rmC.eq_1 (zc @hgd (zc @hset @lenMp)))); (exact (Enters.of Tryz.func57 rfl rfl)); (exact c1); (exact x_al (zc @rmC.eq_1 (zc @hgd (zc @hset @lenMp)))); (try dsimp only [putA, optG]))
              (refine x_go (zc @rmC.eq_1 (zc @hgd (zc @hset @lenMp))) ?_)
              (apply Run.pureFP; (exact x_ev (zc @rmC.eq_1 (zc @hgd (zc @hset @lenMp)))); (exact (Enters.of Tryz.func57 rfl rfl)); (exact c2); (exact x_al (zc @rmC.eq_1 (zc @hgd (zc @hset @lenMp)))); (try dsimp only [putA, optG]))
              (refine x_go (zc @rmC.eq_1 (zc @hgd (zc @hset @lenMp))) ?_)
              (apply Run.pureFP; (exact x_ev (zc @rmC.eq_1 (zc @hgd (zc @hset @lenMp)))); (exact (Enters.of Tryz.func57 rfl rfl)); (exact c3); (exact x_al (zc @rmC.eq_1 (zc @hgd (zc @hset @lenMp)))); (try dsimp only [putA, optG]))
              (refine x_go (zc @rmC.eq_1 (zc @hgd (zc @hset @lenMp))) ?_)
              (apply Run.pureFP; (exact x_ev (zc @rmC.eq_1 (zc @hgd (zc @hset @lenMp)))); (exact (Enters.of Tryz.func56 rfl rfl)); (exact c4); (exact x_al (zc @rmC.eq_1 (zc @hgd (zc @hset @lenMp)))); (try dsimp only [putA, optG]))
              (repeat (refine x_nr (zc @rmC.eq_1 (zc @hgd (zc @hset @lenMp))) ?_))
              (apply Run.nil; dsimp only [sQ, tQ, bQ])
              repeat (first | apply Wp.seq | apply Wp.block)
              (refine x_beg (zc @rmC.eq_1 (zc @hgd (zc @hset @lenMp))) ?_)
              (apply Run.lit0e; (exact x_ev (zc @rmC.eq_1 (zc @hgd (zc @hset @lenMp)))); (focus ((try simp only [push_cast, seval, rmC, hgd, hset, List.length_map]) <;> exact sT)); dsimp only [putA])
              (refine x_nr (zc @rmC.eq_1 (zc @hgd (zc @hset @lenMp))) ?_)
              (refine x_nr (zc @rmC.eq_1 (zc @hgd (zc @hset @lenMp))) ?_)
              (refine x_rapf (zc @rmC.eq_1 (zc @hgd (zc @hset @lenMp))) ?_)
              (refine x_go (zc @rmC.eq_1 (zc @hgd (zc @hset @lenMp))) ?_)
              refine ⟨(k + 1, v + 1, .row 8 [.agg (acC x)]), ?_, by simp only; omega, by simp only; omega⟩
              simp only [acC]
              (refine Le.of ?_ ?_ rfl rfl <;> (try simp only [push_cast, seval, rmC, hgd, hset, List.length_map]) <;> (try (with_reducible rfl)))
            · intro hk
              obtain rfl : k = r.ac.length := by simp only [decide_eq_false_iff_not, List.length_map] at hk; omega
              (refine x_go @rmC.eq_1 ?_)
              refine Wp.loop (fun k : Nat => { t := [(1, .ref (rmC r) 0), (2, .optr 1 0 0 0), (3, .optr 6 1 0 0), (8, .int k)], m := [⟨1, .row 8 []⟩, ⟨0, .row 8 [.agg [.emp, .emp, .emp, .emp, .emp, .emp, .int 0, .emp]]⟩, ⟨1, .row 3 (r.pp.map ppA)⟩, ⟨1, .row 3 (r.wy.map wyA)⟩, ⟨1, .row 8 (r.ac.map acA)⟩, ⟨1, .row 3 (r.au.map auA)⟩, ⟨1, .row 8 [.agg [.strs r.ps, .lst 4 (r.ts.map thA), .osl 2 1 0 r.pp.length, .osl 3 1 0 r.wy.length, .osl 4 1 0 r.ac.length, .osl 5 1 0 r.au.length, .int r.n, cdA r.goal]]⟩, ⟨v, kd⟩], n := 135 }) (fun k => k ≤ r.au.length) (fun k => r.au.length - k) 0 ?_ ?_ ?_
              · (refine Le.of ?_ ?_ rfl rfl <;> (try simp only [push_cast, seval, rmC]) <;> (try (with_reducible rfl)))
                all_goals (first | exact ⟨rfl, rfl⟩ | rfl)
              · simp
              · intro k hk1
                (refine x_go @rmC.eq_1 ?_)
                (apply Wp.cond; (exact x_ev @rmC.eq_1))
                · intro hk
                  have hc : k < r.au.length := by simp only [decide_eq_true_eq, List.length_map] at hk; omega
                  have hw : (r.au.getD k au0).wh.length ≤ 20 := hz.aun _ (memAu' hc)
                  have c1 := copyCond_pure (r.au.getD k au0).wh (by omega)
                  have hgd := fun d => getD_au (d := d) hc
                  have hset := set_same (f := auA) au0 hc rfl
                  generalize hx : r.au.getD k au0 = x at *
                  simp only [auA] at hset hgd
                  (refine x_go (zc @rmC.eq_1 (zc @hgd (zc @hset @lenMp))) ?_)
                  (apply Wp.runGES 8 12 mixed; (dsimp only [List.map] <;> exact rfl); exact rfl; kernel_rfl; (dsimp only [List.take] <;> exact rfl); (dsimp only [List.drop] <;> exact rfl); (dsimp only [List.take] <;> exact rfl); (dsimp only [List.drop] <;> exact rfl); kernel_rfl; (((refine x_gp (zc @rmC.eq_1 (zc @hgd (zc @hset @lenMp))) ?_); (apply AbsG.callF; exact rfl; (exact x_ev (zc @rmC.eq_1 (zc @hgd (zc @hset @lenMp)))); (exact (Enters.of Tryz.func56 rfl rfl)); (exact c1); (exact x_al (zc @rmC.eq_1 (zc @hgd (zc @hset @lenMp)))); (try dsimp only [upd, optG])); (refine x_gp (zc @rmC.eq_1 (zc @hgd (zc @hset @lenMp))) ?_)); exact AbsG.nil); kernel_rfl; exact rfl; ((try dsimp only [List.cons_append, List.nil_append]); (exact x_ev (zc @rmC.eq_1 (zc @hgd (zc @hset @lenMp))))); ((try simp only [push_cast, seval, rmC, hgd, hset, List.length_map]) <;> exact sT); dsimp only [upd])
                  (refine x_go (zc @rmC.eq_1 (zc @hgd (zc @hset @lenMp))) ?_)
                  refine ⟨k + 1, ?_, by omega, by omega⟩
                  (refine Le.of ?_ ?_ rfl rfl <;> (try simp only [push_cast, seval, rmC, hgd, hset, List.length_map]) <;> (try (with_reducible rfl)))
                · intro hk
                  obtain rfl : k = r.au.length := by simp only [decide_eq_false_iff_not, List.length_map] at hk; omega
                  (refine x_go @rmC.eq_1 ?_)
                  (first | exact x_retA @rmC.eq_1 | refine x_retAZ @rmC.eq_1 ?_)
                  exact Vw.agg (VwL.cons (Vw.self (by simp [AV.ok, okL_str])) (VwL.cons (Vw.self (by simp [AV.ok, okL_th])) (VwL.cons (Vw.rowR rfl (by rw [okL_pp]; trivial) (by simp) (by decide)) (VwL.cons (Vw.rowR rfl (by rw [okL_wy]; trivial) (by simp) (by decide)) (VwL.cons (Vw.rowR rfl (by rw [okL_ac]; trivial) (by simp) (by decide)) (VwL.cons (Vw.rowR rfl (by rw [okL_au]; trivial) (by simp) (by decide)) (VwL.cons (Vw.self trivial) (VwL.cons (Vw.self (by simp [AV.ok, okL_lt])) VwL.nil))))))))
end Go.Proofs.Tryz
set_option maxHeartbeats 16000000
namespace Go.Proofs.Tryz
open Go.Vg

/-! rooms that are larger than a statement looks at -/
def f0B (r : Rm) : Bool := decide ((12 : Int) < r.ps.length) || decide ((15 : Int) < r.ts.length) || decide ((14 : Int) < r.pp.length) || decide ((20 : Int) < r.wy.length) || decide ((30 : Int) < r.ac.length) || decide ((15 : Int) < r.au.length) || decide ((20 : Int) < r.goal.length)
def f1B (x : ByteArray) : Bool := decide ((100 : Int) < x.size)
def f2B (x : Th) : Bool := decide ((100 : Int) < x.nm.size)
def f3B (x : Pp) : Bool := decide ((100 : Int) < x.nm.size) || decide ((20 : Int) < x.wh.length)
def f4B (x : Wy) : Bool := decide ((20 : Int) < x.wh.length)
def f5B (x : Ac) : Bool := decide ((100 : Int) < x.nm.size) || decide ((20 : Int) < x.wh.length) || decide ((20 : Int) < x.us.length) || decide ((20 : Int) < x.se.length) || decide ((20 : Int) < x.sp.length) || decide ((20 : Int) < x.br.length)
def f6B (x : Au) : Bool := decide ((20 : Int) < x.wh.length)
def farB (r : Rm) : Bool := f0B r || (r.ps.any f1B || (r.ts.any f2B || (r.pp.any f3B || (r.wy.any f4B || (r.ac.any f5B || r.au.any f6B)))))
theorem farB_Sz {r : Rm} (h : farB r = false) : Sz r := by
  unfold farB at h
  simp only [Bool.or_eq_false_iff, List.any_eq_false, f0B, f1B, f2B, f3B, f4B, f5B, f6B, decide_eq_false_iff_not, decide_eq_true_eq, Bool.or_eq_true, not_or, Int.not_lt] at h
  obtain ⟨h0, h1, h2, h3, h4, h5, h6⟩ := h
  refine ⟨by omega, by omega, by omega, by omega, by omega, by omega, by omega, fun x hx => by have := h1 x hx; omega, fun x hx => by have := h2 x hx; omega, fun x hx => ?_, fun x hx => ?_, fun x hx => ?_, fun x hx => ?_⟩
  · have := h3 x hx; exact ⟨by omega, by omega⟩
  · have := h4 x hx; omega
  · have := h5 x hx; exact ⟨by omega, by omega, by omega, by omega, by omega, by omega⟩
  · have := h6 x hx; omega
theorem Far_pure (r : Rm) : Pure Tryz.prog 20 [rmA r] (.bool (farB r)) := by
  unfold farB
  unfold rmA rmC
  (refine Spec.bd 0 Tryz.func20 Tryz.results20 Tryz.ntmps20 ?_; simp only [entry, zipArgs, Nat.reduceAdd])
  ((refine x_pre @rmC.eq_1 ?_); (iterate 2 (refine x_nr @rmC.eq_1 ?_)); (refine x_nil @rmC.eq_1 ?_))
  (refine x_fzP @rmC.eq_1 (slq 1) ?_)
  (refine x_go @rmC.eq_1 ?_)
  (apply Wp.cond; (exact x_ev @rmC.eq_1))
  · intro h
    rw [show f0B r = true from h]
    (refine x_go @rmC.eq_1 ?_)
    (first | exact x_ret @rmC.eq_1 | refine x_retZ @rmC.eq_1 ?_)
  · intro h
    rw [show f0B r = false from h, Bool.false_or]
    have z : r.ps.length ≤ 12 ∧ r.ts.length ≤ 15 ∧ r.pp.length ≤ 14 ∧ r.wy.length ≤ 20 ∧ r.ac.length ≤ 30 ∧ r.au.length ≤ 15 := by
      simp only [Bool.or_eq_false_iff, decide_eq_false_iff_not] at h
      omega
    clear h
    (refine x_go @rmC.eq_1 ?_)
    refine Wp.loop (fun k : Nat => { t := [(1, .ref (rmC r) 0), (3, .int k)], m := [⟨1, .row 8 []⟩], n := 180 }) (fun k => k ≤ r.ps.length ∧ ∀ j, j < k → f1B (r.ps.getD j ByteArray.empty) = false) (fun k => r.ps.length - k) 0 ?_ ?_ ?_
    · (refine Le.of ?_ ?_ rfl rfl <;> (try simp only [push_cast, seval, rmC]) <;> (try (with_reducible rfl)))
      all_goals (first | exact ⟨rfl, rfl⟩ | rfl)
    · simp
    · rintro k ⟨hk1, hk2⟩
      (refine x_go @rmC.eq_1 ?_)
      (apply Wp.cond; (exact x_ev @rmC.eq_1))
      · (intro hc; first | replace hc := bT hc | skip)
        have hfx : ∀ b, f1B (r.ps.getD k ByteArray.empty) = b → f1B (r.ps.getD k ByteArray.empty) = b := fun _ h => h
        generalize hx : r.ps.getD k ByteArray.empty = x at *
        skip
        skip
        (refine x_go (zc @rmC.eq_1 @hx) ?_)
        (apply Wp.cond; (exact x_ev (zc @rmC.eq_1 @hx)))
        · intro h
          rw [any_bad (d := ByteArray.empty) (p := f1B) hc (by rw [hx]; exact h)]
          (refine x_go (zc @rmC.eq_1 @hx) ?_)
          (first | exact x_ret (zc @rmC.eq_1 @hx) | refine x_retZ (zc @rmC.eq_1 @hx) ?_)
        · intro h
          (refine x_go (zc @rmC.eq_1 @hx) ?_)
          refine ⟨k + 1, ?_, ⟨by omega, fun j hj => ?_⟩, by omega⟩
          · (refine Le.of ?_ ?_ rfl rfl <;> (try simp only [push_cast, seval, rmC, hx]) <;> (try (with_reducible rfl)))
            all_goals rfl
          · by_cases hjk : j = k
            · subst hjk; rw [hx]; exact h
            · exact hk2 j (by omega)
      · (intro hc; first | replace hc := bT hc | skip)
        obtain rfl : k = r.ps.length := by omega
        rw [any_none (d := ByteArray.empty) (p := f1B) hk2, Bool.false_or]
        clear hk1
        (refine x_go @rmC.eq_1 ?_)
        refine Wp.loop (fun k : Nat => { t := [(1, .ref (rmC r) 0), (4, .int k)], m := [⟨1, .row 8 []⟩], n := 180 }) (fun k => k ≤ r.ts.length ∧ ∀ j, j < k → f2B (r.ts.getD j th0) = false) (fun k => r.ts.length - k) 0 ?_ ?_ ?_
        · (refine Le.of ?_ ?_ rfl rfl <;> (try simp only [push_cast, seval, rmC]) <;> (try (with_reducible rfl)))
          all_goals (first | exact ⟨rfl, rfl⟩ | rfl)
        · simp
        · rintro k ⟨hk1, hk2⟩
          (refine x_go @rmC.eq_1 ?_)
          (apply Wp.cond; (exact x_ev @rmC.eq_1))
          · (intro hc; first | replace hc := bT hc | skip)
            have hfx : ∀ b, f2B (r.ts.getD k th0) = b → f2B (r.ts.getD k th0) = b := fun _ h => h
            generalize hx : r.ts.getD k th0 = x at *
            skip
            skip
            (refine x_go (zc @rmC.eq_1 @hx) ?_)
            (apply Wp.cond; (exact x_ev (zc @rmC.eq_1 @hx)))
            · intro h
              rw [any_bad (d := th0) (p := f2B) hc (by rw [hx]; exact h)]
              (refine x_go (zc @rmC.eq_1 @hx) ?_)
              (first | exact x_ret (zc @rmC.eq_1 @hx) | refine x_retZ (zc @rmC.eq_1 @hx) ?_)
            · intro h
              (refine x_go (zc @rmC.eq_1 @hx) ?_)
              refine ⟨k + 1, ?_, ⟨by omega, fun j hj => ?_⟩, by omega⟩
              · (refine Le.of ?_ ?_ rfl rfl <;> (try simp only [push_cast, seval, rmC, hx]) <;> (try (with_reducible rfl)))
                all_goals rfl
              · by_cases hjk : j = k
                · subst hjk; rw [hx]; exact h
                · exact hk2 j (by omega)
          · (intro hc; first | replace hc := bT hc | skip)
            obtain rfl : k = r.ts.length := by omega
            rw [any_none (d := th0) (p := f2B) hk2, Bool.false_or]
            clear hk1
            (refine x_go @rmC.eq_1 ?_)
            refine Wp.loop (fun k : Nat => { t := [(1, .ref (rmC r) 0), (5, .int k)], m := [⟨1, .row 8 []⟩], n := 180 }) (fun k => k ≤ r.pp.length ∧ ∀ j, j < k → f3B (r.pp.getD j pp0) = false) (fun k => r.pp.length - k) 0 ?_ ?_ ?_
            · (refine Le.of ?_ ?_ rfl rfl <;> (try simp only [push_cast, seval, rmC]) <;> (try (with_reducible rfl)))
              all_goals (first | exact ⟨rfl, rfl⟩ | rfl)
            · simp
            · rintro k ⟨hk1, hk2⟩
              (refine x_go @rmC.eq_1 ?_)
              (apply Wp.cond; (exact x_ev @rmC.eq_1))
              · (intro hc; first | replace hc := bT hc | skip)
                have hfx : ∀ b, f3B (r.pp.getD k pp0) = b → f3B (r.pp.getD k pp0) = b := fun _ h => h
                generalize hx : r.pp.getD k pp0 = x at *
                skip
                skip
                (refine x_go (zc @rmC.eq_1 (zc @hx (zc (fun d => getD_pp (d := d) hc) @ppA.eq_1))) ?_)
                (apply Wp.cond; (exact x_ev (zc @rmC.eq_1 (zc @hx (zc (fun d => getD_pp (d := d) hc) @ppA.eq_1)))))
                · intro h
                  rw [any_bad (d := pp0) (p := f3B) hc (by rw [hx]; exact h)]
                  (refine x_go (zc @rmC.eq_1 (zc @hx (zc (fun d => getD_pp (d := d) hc) @ppA.eq_1))) ?_)
                  (first | exact x_ret (zc @rmC.eq_1 (zc @hx (zc (fun d => getD_pp (d := d) hc) @ppA.eq_1))) | refine x_retZ (zc @rmC.eq_1 (zc @hx (zc (fun d => getD_pp (d := d) hc) @ppA.eq_1))) ?_)
                · intro h
                  (refine x_go (zc @rmC.eq_1 (zc @hx (zc (fun d => getD_pp (d := d) hc) @ppA.eq_1))) ?_)
                  refine ⟨k + 1, ?_, ⟨by omega, fun j hj => ?_⟩, by omega⟩
                  · (refine Le.of ?_ ?_ rfl rfl <;> (try simp only [push_cast, seval, rmC, hx, getD_pp hc, ppA]) <;> (try (with_reducible rfl)))
                    all_goals rfl
                  · by_cases hjk : j = k
                    · subst hjk; rw [hx]; exact h
                    · exact hk2 j (by omega)
              · (intro hc; first | replace hc := bT hc | skip)
                obtain rfl : k = r.pp.length := by omega
                rw [any_none (d := pp0) (p := f3B) hk2, Bool.false_or]
                clear hk1
                (refine x_go @rmC.eq_1 ?_)
                refine Wp.loop (fun k : Nat => { t := [(1, .ref (rmC r) 0), (6, .int k)], m := [⟨1, .row 8 []⟩], n := 180 }) (fun k => k ≤ r.wy.length ∧ ∀ j, j < k → f4B (r.wy.getD j wy0) = false) (fun k => r.wy.length - k) 0 ?_ ?_ ?_
                · (refine Le.of ?_ ?_ rfl rfl <;> (try simp only [push_cast, seval, rmC]) <;> (try (with_reducible rfl)))
                  all_goals (first | exact ⟨rfl, rfl⟩ | rfl)
                · simp
                · rintro k ⟨hk1, hk2⟩
                  (refine x_go @rmC.eq_1 ?_)
                  (apply Wp.cond; (exact x_ev @rmC.eq_1))
                  · (intro hc; first | replace hc := bT hc | skip)
                    have hfx : ∀ b, f4B (r.wy.getD k wy0) = b → f4B (r.wy.getD k wy0) = b := fun _ h => h
                    generalize hx : r.wy.getD k wy0 = x at *
                    skip
                    skip
                    (refine x_go (zc @rmC.eq_1 (zc @hx (zc (fun d => getD_wy (d := d) hc) @wyA.eq_1))) ?_)
                    (apply Wp.cond; (exact x_ev (zc @rmC.eq_1 (zc @hx (zc (fun d => getD_wy (d := d) hc) @wyA.eq_1)))))
                    · intro h
                      rw [any_bad (d := wy0) (p := f4B) hc (by rw [hx]; exact h)]
                      (refine x_go (zc @rmC.eq_1 (zc @hx (zc (fun d => getD_wy (d := d) hc) @wyA.eq_1))) ?_)
                      (first | exact x_ret (zc @rmC.eq_1 (zc @hx (zc (fun d => getD_wy (d := d) hc) @wyA.eq_1))) | refine x_retZ (zc @rmC.eq_1 (zc @hx (zc (fun d => getD_wy (d := d) hc) @wyA.eq_1))) ?_)
                    · intro h
                      (refine x_go (zc @rmC.eq_1 (zc @hx (zc (fun d => getD_wy (d := d) hc) @wyA.eq_1))) ?_)
                      refine ⟨k + 1, ?_, ⟨by omega, fun j hj => ?_⟩, by omega⟩
                      · (refine Le.of ?_ ?_ rfl rfl <;> (try simp only [push_cast, seval, rmC, hx, getD_wy hc, wyA]) <;> (try (with_reducible rfl)))
                        all_goals rfl
                      · by_cases hjk : j = k
                        · subst hjk; rw [hx]; exact h
                        · exact hk2 j (by omega)
                  · (intro hc; first | replace hc := bT hc | skip)
                    obtain rfl : k = r.wy.length := by omega
                    rw [any_none (d := wy0) (p := f4B) hk2, Bool.false_or]
                    clear hk1
                    (refine x_go @rmC.eq_1 ?_)
                    (refine Wp.vacs 1 ?_; (try simp only [List.replicate_succ, List.replicate_zero, List.cons_append, List.nil_append]))
                    refine Wp.loop (fun (q : Nat × Nat × Kind) => { t := [(1, .ref (rmC r) 0), (7, .int q.1)], m := [⟨1, .row 8 []⟩, ⟨q.2.1, q.2.2⟩], n := 180 }) (fun q => q.1 ≤ r.ac.length ∧ ∀ j, j < q.1 → f5B (r.ac.getD j ac0) = false) (fun q => r.ac.length - q.1) (0, 0, .row 1 []) ?_ ?_ ?_
                    · (refine Le.of ?_ ?_ rfl rfl <;> (try simp only [push_cast, seval, rmC]) <;> (try (with_reducible rfl)))
                      all_goals (first | exact ⟨rfl, rfl⟩ | rfl)
                    · simp
                    · rintro ⟨k, v, kd⟩ ⟨hk1, hk2⟩
                      simp only at hk1 hk2
                      (refine x_go @rmC.eq_1 ?_)
                      (apply Wp.cond; (exact x_ev @rmC.eq_1))
                      · (intro hc; first | replace hc := bT hc | skip)
                        have hfx : ∀ b, f5B (r.ac.getD k ac0) = b → f5B (r.ac.getD k ac0) = b := fun _ h => h
                        have hgd := fun d => getD_ac (d := d) hc
                        generalize hx : r.ac.getD k ac0 = x at *
                        simp only [acA, acC] at hgd
                        (refine x_gs (zc @rmC.eq_1 (zc @hx @hgd)) ?_)
                        (apply Run.alcAt 1; (exact x_ev (zc @rmC.eq_1 (zc @hx @hgd))); ((try simp only [push_cast, seval, rmC, hx, hgd]) <;> exact sT); exact rfl; (try simp only [push_cast, seval, rmC, hx, hgd]))
                        (refine x_go (zc @rmC.eq_1 (zc @hx @hgd)) ?_)
                        (apply Wp.cond; (exact x_ev (zc @rmC.eq_1 (zc @hx @hgd))))
                        · intro h
                          rw [any_bad (d := ac0) (p := f5B) hc (by rw [hx]; exact h)]
                          (refine x_go (zc @rmC.eq_1 (zc @hx @hgd)) ?_)
                          (first | exact x_ret (zc @rmC.eq_1 (zc @hx @hgd)) | refine x_retZ (zc @rmC.eq_1 (zc @hx @hgd)) ?_)
                        · intro h
                          (refine x_go (zc @rmC.eq_1 (zc @hx @hgd)) ?_)
                          refine ⟨(k + 1, v + 1, .row 8 [.agg (acC x)]), ?_, ⟨by simp only; omega, fun j hj => ?_⟩, by simp only; omega⟩
                          · (refine Le.of ?_ ?_ rfl rfl <;> (try simp only [push_cast, seval, rmC, hx, hgd]) <;> (try (with_reducible rfl)))
                            all_goals rfl
                          · simp only at hj
                            by_cases hjk : j = k
                            · subst hjk; rw [hx]; exact h
                            · exact hk2 j (by omega)
                      · (intro hc; first | replace hc := bT hc | skip)
                        obtain rfl : k = r.ac.length := by omega
                        rw [any_none (d := ac0) (p := f5B) hk2, Bool.false_or]
                        clear hk1
                        (refine x_go @rmC.eq_1 ?_)
                        refine Wp.loop (fun k : Nat => { t := [(1, .ref (rmC r) 0), (9, .int k)], m := [⟨1, .row 8 []⟩, ⟨v, kd⟩], n := 180 }) (fun k => k ≤ r.au.length ∧ ∀ j, j < k → f6B (r.au.getD j au0) = false) (fun k => r.au.length - k) 0 ?_ ?_ ?_
                        · (refine Le.of ?_ ?_ rfl rfl <;> (try simp only [push_cast, seval, rmC]) <;> (try (with_reducible rfl)))
                          all_goals (first | exact ⟨rfl, rfl⟩ | rfl)
                        · simp
                        · rintro k ⟨hk1, hk2⟩
                          (refine x_go @rmC.eq_1 ?_)
                          (apply Wp.cond; (exact x_ev @rmC.eq_1))
                          · (intro hc; first | replace hc := bT hc | skip)
                            have hfx : ∀ b, f6B (r.au.getD k au0) = b → f6B (r.au.getD k au0) = b := fun _ h => h
                            generalize hx : r.au.getD k au0 = x at *
                            skip
                            skip
                            (refine x_go (zc @rmC.eq_1 (zc @hx (zc (fun d => getD_au (d := d) hc) @auA.eq_1))) ?_)
                            (apply Wp.cond; (exact x_ev (zc @rmC.eq_1 (zc @hx (zc (fun d => getD_au (d := d) hc) @auA.eq_1)))))
                            · intro h
                              rw [any_bad (d := au0) (p := f6B) hc (by rw [hx]; exact h)]
                              (refine x_go (zc @rmC.eq_1 (zc @hx (zc (fun d => getD_au (d := d) hc) @auA.eq_1))) ?_)
                              (first | exact x_ret (zc @rmC.eq_1 (zc @hx (zc (fun d => getD_au (d := d) hc) @auA.eq_1))) | refine x_retZ (zc @rmC.eq_1 (zc @hx (zc (fun d => getD_au (d := d) hc) @auA.eq_1))) ?_)
                            · intro h
                              (refine x_go (zc @rmC.eq_1 (zc @hx (zc (fun d => getD_au (d := d) hc) @auA.eq_1))) ?_)
                              refine ⟨k + 1, ?_, ⟨by omega, fun j hj => ?_⟩, by omega⟩
                              · (refine Le.of ?_ ?_ rfl rfl <;> (try simp only [push_cast, seval, rmC, hx, getD_au hc, auA]) <;> (try (with_reducible rfl)))
                                all_goals rfl
                              · by_cases hjk : j = k
                                · subst hjk; rw [hx]; exact h
                                · exact hk2 j (by omega)
                          · (intro hc; first | replace hc := bT hc | skip)
                            obtain rfl : k = r.au.length := by omega
                            rw [any_none (d := au0) (p := f6B) hk2]
                            clear hk1
                            (refine x_go @rmC.eq_1 ?_)
                            (first | exact x_ret @rmC.eq_1 | refine x_retZ @rmC.eq_1 ?_)
end Go.Proofs.Tryz
set_option maxHeartbeats 16000000
namespace Go.Proofs.Tryz
open Go.Vg

/-! photographs -/
def phT (r : Rm) (s : St) (p : Int) (k : Nat) : List Int := (List.range k).map fun i : Nat => if (r.ts.getD i th0).pl = p then s.ts.getD i 0 else -1
def phP (r : Rm) (s : St) (p : Int) (k : Nat) : List Int := (List.range k).map fun i : Nat => if (decide (s.pp.getD i 0 = p) && hdB s.ts (r.pp.getD i pp0).wh) = true then 1 else 0
theorem phT_succ (r : Rm) (s : St) (p : Int) (k : Nat) : phT r s p (k + 1) = phT r s p k ++ [if (r.ts.getD k th0).pl = p then s.ts.getD k 0 else -1] := by simp [phT, List.range_succ]
theorem phP_succ (r : Rm) (s : St) (p : Int) (k : Nat) : phP r s p (k + 1) = phP r s p k ++ [if (decide (s.pp.getD k 0 = p) && hdB s.ts (r.pp.getD k pp0).wh) = true then 1 else 0] := by simp [phP, List.range_succ]
theorem phT_len (r : Rm) (s : St) (p : Int) (k : Nat) : (phT r s p k).length = k := by simp [phT]
theorem phP_len (r : Rm) (s : St) (p : Int) (k : Nat) : (phP r s p k).length = k := by simp [phP]
structure Ph where
  at_ : Int
  ts : List Int
  pp : List Int
  deriving DecidableEq
def phA (x : Ph) : AV := .agg [.int x.at_, .ints x.ts, .ints x.pp]
def phO (r : Rm) (s : St) (p : Int) : Ph := ⟨p, phT r s p r.ts.length, phP r s p r.pp.length⟩
abbrev phN : AV := .agg [.int 0, .emp, .emp]
theorem photo_pure {r : Rm} (hz : Sz r) (f : St) {s : St} (hs : Zs s) (hc : csE r s = 0) (a p : Int) : Pure Tryz.prog 68 [.ref (kC r f s a) 0, .int p] (phA (phO r s p)) := by
  obtain ⟨hv, hv2, hch⟩ := cs_zero hc
  have z2 := hz.ts
  have z3 := hz.pp
  have l1 := hv2.ts
  have l2 := hv2.pp
  have y1 := hs.ts
  have y2 := hs.pp
  have hkc := rfl (a := kC r f s a)
  refine Spec.frz ?_
  unfold phA phO
  (refine Spec.of_bodyA Tryz.func68 rfl (by rw [Tryz.ntmps68]; simp) ?_; rw [Tryz.results68, Tryz.ntmps68]; simp only [entry, zipArgs, Nat.reduceAdd])
  (refine w_go ?_)
  refine Wp.adoptRow 1 2 (l' := [.agg [.int p, .osl 2 0 0 0, .osl 3 0 0 0]]) rfl ⟨.inr ⟨_, _, rfl, rfl, .inl (.inl rfl), .inl (.inr ⟨rfl, 2, by simp, by simp, rfl⟩), .inl (.inr ⟨rfl, 3, by simp, by simp, rfl⟩), trivial⟩, trivial⟩ ?_
  simp only [List.set_cons_succ, List.set_cons_zero, List.replicate_succ, List.replicate_zero, List.cons_append, List.nil_append]
  (refine Wp.vacs 1 ?_; (try simp only [List.replicate_succ, List.replicate_zero, List.cons_append, List.nil_append]))
  refine Wp.loop (fun (q : Nat × Nat × Kind) => { t := [(0, .ref (kC r f s a) 0), (1, .int p), (4, .optr 0 0 0 0), (5, .optr 1 0 0 0), (18, .lst 4 (r.ts.map thA)), (19, .int r.ts.length), (20, .int q.1)], m := [⟨0, .row 3 [phN]⟩, ⟨0, .row 3 [.agg [.int p, .osl 2 q.1 0 q.1, .osl 3 0 0 0]]⟩, ⟨q.1, .row 1 ((phT r s p q.1).map AV.int)⟩, ⟨0, .row 1 []⟩, ⟨q.2.1, q.2.2⟩], n := 79 }) (fun q => q.1 ≤ r.ts.length) (fun q => r.ts.length - q.1) (0, 0, .row 1 []) ?_ ?_ ?_
  · (refine Le.of ?_ ?_ rfl rfl <;> (try simp only [push_cast, seval]) <;> (try (with_reducible rfl)))
    all_goals (first | exact ⟨rfl, rfl⟩ | rfl)
  · simp
  · rintro ⟨k, v, kd⟩ hk1
    simp only at hk1
    (refine w_go ?_)
    (apply Wp.cond; (exact w_ev))
    · (intro hc; first | replace hc := bT hc | skip)
      have hst := phT_succ r s p k
      have hLl := phT_len r s p k
      generalize phT r s p k = L at hst hLl
      have hLt : L.take k = L := List.take_of_length_le (by omega)
      generalize hx : r.ts.getD k th0 = x at hst
      generalize hy : s.ts.getD k 0 = y at hst
      (refine x_gs (zc @hx (zc @hy (zc @hLl (zc @hLt @lenMp)))) ?_)
      (apply Run.alcAt 4; (exact x_ev (zc @hx (zc @hy (zc @hLl (zc @hLt @lenMp))))); ((try simp only [push_cast, seval, hx, hy, hLl, hLt, List.length_map]) <;> exact sT); exact rfl; (try simp only [push_cast, seval, hx, hy, hLl, hLt, List.length_map]))
      (refine x_go (zc @hx (zc @hy (zc @hLl (zc @hLt @lenMp)))) ?_)
      (apply Wp.cond; (exact x_ev (zc @hx (zc @hy (zc @hLl (zc @hLt @lenMp))))))
      · intro h
        rw [if_pos (by simpa using h)] at hst
        (refine x_go (zc @hx (zc @hy (zc @hLl (zc @hLt @lenMp)))) ?_)
        refine ⟨(k + 1, v + 1, .row 4 [thA x]), ?_, by simp only; omega, by simp only; omega⟩
        simp only [hst]
        (refine Le.of ?_ ?_ rfl rfl <;> (try simp only [push_cast, seval, hx, hy, hLl, hLt, List.length_map]) <;> (try (with_reducible rfl)))
      · intro h
        rw [if_neg (by simpa using h)] at hst
        (refine x_go (zc @hx (zc @hy (zc @hLl (zc @hLt @lenMp)))) ?_)
        refine ⟨(k + 1, v + 1, .row 4 [thA x]), ?_, by simp only; omega, by simp only; omega⟩
        simp only [hst]
        (refine Le.of ?_ ?_ rfl rfl <;> (try simp only [push_cast, seval, hx, hy, hLl, hLt, List.length_map]) <;> (try (with_reducible rfl)))
    · (intro hc; first | replace hc := bT hc | skip)
      obtain rfl : k = r.ts.length := by omega
      have hTl := phT_len r s p r.ts.length
      generalize phT r s p r.ts.length = T at hTl ⊢
      generalize hnt : r.ts.length = nt at *
      (refine w_go ?_)
      (refine Wp.vacs 1 ?_; (try simp only [List.replicate_succ, List.replicate_zero, List.cons_append, List.nil_append]))
      refine Wp.loop (fun (q : Nat × Nat × Kind) => { t := [(0, .ref (kC r f s a) 0), (1, .int p), (4, .optr 0 0 0 0), (5, .optr 1 0 0 0), (48, .lst 3 (r.pp.map ppA)), (49, .int r.pp.length), (50, .int q.1)], m := [⟨0, .row 3 [phN]⟩, ⟨0, .row 3 [.agg [.int p, .osl 2 nt 0 nt, .osl 3 q.1 0 q.1]]⟩, ⟨nt, .row 1 (T.map AV.int)⟩, ⟨q.1, .row 1 ((phP r s p q.1).map AV.int)⟩, ⟨v, kd⟩, ⟨q.2.1, q.2.2⟩], n := 79 }) (fun q => q.1 ≤ r.pp.length) (fun q => r.pp.length - q.1) (0, 0, .row 1 []) ?_ ?_ ?_
      · (refine Le.of ?_ ?_ rfl rfl <;> (try simp only [push_cast, seval]) <;> (try (with_reducible rfl)))
        all_goals (first | exact ⟨rfl, rfl⟩ | rfl)
      · simp
      · rintro ⟨k, v2, kd2⟩ hk2
        simp only at hk2
        (refine w_go ?_)
        (apply Wp.cond; (exact w_ev))
        · (intro hc; first | replace hc := bT hc | skip)
          have hst := phP_succ r s p k
          have hLl := phP_len r s p k
          have hm := memPp hc
          have hw := (hz.ppn _ hm).2
          have hcd := (hv.ppv _ hm).2
          generalize phP r s p k = L at hst hLl
          have hLt : L.take k = L := List.take_of_length_le (by omega)
          generalize hx : r.pp.getD k pp0 = x at hst hw hcd
          generalize hy : s.pp.getD k 0 = y at hst
          have hh := kholds_pure hz f hs ‹csE r s = 0› a x.wh hw hcd
          generalize hdB s.ts x.wh = b at hst hh
          (refine x_gs (zc @hx (zc @hy (zc @hLl (zc @hLt (zc @lenMp (zc (fun d => getD_pp (d := d) hc) @ppA.eq_1)))))) ?_)
          (apply Run.alcAt 5; (exact x_ev (zc @hx (zc @hy (zc @hLl (zc @hLt (zc @lenMp (zc (fun d => getD_pp (d := d) hc) @ppA.eq_1))))))); ((try simp only [push_cast, seval, hx, hy, hLl, hLt, List.length_map, getD_pp hc, ppA]) <;> exact sT); exact rfl; (try simp only [push_cast, seval, hx, hy, hLl, hLt, List.length_map, getD_pp hc, ppA]))
          (refine x_go (zc @hx (zc @hy (zc @hLl (zc @hLt (zc @lenMp (zc (fun d => getD_pp (d := d) hc) @ppA.eq_1)))))) ?_)
          (apply Run.pureP; (exact x_ev (zc @hx (zc @hy (zc @hLl (zc @hLt (zc @lenMp (zc (fun d => getD_pp (d := d) hc) @ppA.eq_1))))))); (exact (Enters.of Tryz.func90 rfl rfl)); (exact hh); (exact x_al (zc @hx (zc @hy (zc @hLl (zc @hLt (zc @lenMp (zc (fun d => getD_pp (d := d) hc) @ppA.eq_1))))))); (try dsimp only [putA, optG]))
          (refine x_go (zc @hx (zc @hy (zc @hLl (zc @hLt (zc @lenMp (zc (fun d => getD_pp (d := d) hc) @ppA.eq_1)))))) ?_)
          (apply Wp.cond; (exact x_ev (zc @hx (zc @hy (zc @hLl (zc @hLt (zc @lenMp (zc (fun d => getD_pp (d := d) hc) @ppA.eq_1))))))))
          · intro h
            rw [if_pos h] at hst
            (refine x_go (zc @hx (zc @hy (zc @hLl (zc @hLt (zc @lenMp (zc (fun d => getD_pp (d := d) hc) @ppA.eq_1)))))) ?_)
            refine ⟨(k + 1, v2 + 1, .row 3 [ppA x]), ?_, by simp only; omega, by simp only; omega⟩
            simp only [hst]
            (refine Le.of ?_ ?_ rfl rfl <;> (try simp only [push_cast, seval, hx, hy, hLl, hLt, List.length_map, getD_pp hc, ppA]) <;> (try (with_reducible rfl)))
          · intro h
            rw [if_neg (by rw [h]; simp)] at hst
            (refine x_go (zc @hx (zc @hy (zc @hLl (zc @hLt (zc @lenMp (zc (fun d => getD_pp (d := d) hc) @ppA.eq_1)))))) ?_)
            refine ⟨(k + 1, v2 + 1, .row 3 [ppA x]), ?_, by simp only; omega, by simp only; omega⟩
            simp only [hst]
            (refine Le.of ?_ ?_ rfl rfl <;> (try simp only [push_cast, seval, hx, hy, hLl, hLt, List.length_map, getD_pp hc, ppA]) <;> (try (with_reducible rfl)))
        · (intro hc; first | replace hc := bT hc | skip)
          obtain rfl : k = r.pp.length := by omega
          (refine w_go ?_)
          (first | exact w_retA | refine w_retAZ ?_)
          exact Vw.agg (.cons (Vw.self trivial) (.cons (Vw.ointsR rfl hTl.symm) (.cons (Vw.ointsR rfl (phP_len r s p _).symm) .nil)))
end Go.Proofs.Tryz
set_option maxHeartbeats 16000000
namespace Go.Proofs.Tryz
open Go.Vg

def poA (r : Rm) (s : St) (p : Int) : AV := if begE r s = 0 then if wi p 0 ((r.ps.length : Int) - 1) = true then .tup [phA (phO r s p), .int 0] else .tup [phN, .int 1] else .tup [phN, .int (begE r s)]
theorem Photo_pure {r : Rm} (hz : Sz r) {s : St} (hs : Zs s) (p : Int) : Pure Tryz.prog 29 [rmA r, stA s, .int p] (poA r s p) := by
  have z1 := hz.ps
  unfold poA
  by_cases h1 : begE r s = 0
  · have c0 := begin_pure hz hs h1
    have c1 := photo_pure hz (bgS r) hs (begE_zero h1).2 0 p
    have c2 := within2_pure p 0 ((r.ps.length : Int) - 1)
    rw [if_pos h1]
    cases hw : wi p 0 ((r.ps.length : Int) - 1) with
    | true =>
      rw [hw] at c2
      rw [if_pos rfl]
      generalize phO r s p = o at *
      generalize bgS r = f at *
      unfold rmA rmC at *
      try unfold stA at *
      unfold phA at *
      (refine Spec.bd 0 Tryz.func29 Tryz.results29 Tryz.ntmps29 ?_; simp only [entry, zipArgs, Nat.reduceAdd])
      ((refine w_pre ?_); (iterate 4 (refine w_nr ?_)); (refine w_nil ?_))
      (refine w_fzP (slq 3) ?_)
      (refine w_fzP (slq 4) ?_)
      (refine w_go ?_)
      (apply Run.pureFP; (exact w_ev); (exact (Enters.of Tryz.func46 rfl rfl)); (exact c0); (exact w_al); (try dsimp only [putA, optG]))
      (refine w_gg ?_)
      (apply Run.pureP; (exact w_ev); (exact (Enters.of Tryz.func67 rfl rfl)); (exact c2); (exact w_al); (try dsimp only [putA, optG]))
      (refine w_gg ?_)
      (apply Run.pureFP; (exact w_ev); (exact (Enters.of Tryz.func68 rfl rfl)); (exact c1); (exact w_al); (try dsimp only [putA, optG]))
      (refine w_gg ?_)
      (first | exact w_ret | refine w_retZ ?_)
    | false =>
      rw [hw] at c2
      rw [if_neg (by simp)]
      generalize bgS r = f at *
      unfold rmA rmC at *
      try unfold stA at *
      (refine Spec.bd 0 Tryz.func29 Tryz.results29 Tryz.ntmps29 ?_; simp only [entry, zipArgs, Nat.reduceAdd])
      ((refine w_pre ?_); (iterate 4 (refine w_nr ?_)); (refine w_nil ?_))
      (refine w_fzP (slq 3) ?_)
      (refine w_fzP (slq 4) ?_)
      (refine w_go ?_)
      (apply Run.pureFP; (exact w_ev); (exact (Enters.of Tryz.func46 rfl rfl)); (exact c0); (exact w_al); (try dsimp only [putA, optG]))
      (refine w_gg ?_)
      (apply Run.pureP; (exact w_ev); (exact (Enters.of Tryz.func67 rfl rfl)); (exact c2); (exact w_al); (try dsimp only [putA, optG]))
      (refine w_gg ?_)
      (first | exact w_ret | refine w_retZ ?_)
  · have c0 := begin_err hz hs h1
    have e2 : decide (begE r s = 0) = false := decide_eq_false h1
    rw [if_neg h1]
    generalize begE r s = e at *
    unfold rmA rmC at *
    try unfold stA at *
    (refine Spec.bd 0 Tryz.func29 Tryz.results29 Tryz.ntmps29 ?_; simp only [entry, zipArgs, Nat.reduceAdd])
    ((refine x_pre (zc @e2 @Bool.not_false) ?_); (iterate 4 (refine x_nr (zc @e2 @Bool.not_false) ?_)); (refine x_nil (zc @e2 @Bool.not_false) ?_))
    (refine x_fzP (zc @e2 @Bool.not_false) (slq 3) ?_)
    (refine x_fzP (zc @e2 @Bool.not_false) (slq 4) ?_)
    (refine x_go (zc @e2 @Bool.not_false) ?_)
    (apply Run.pureFP; (exact x_ev (zc @e2 @Bool.not_false)); (exact (Enters.of Tryz.func46 rfl rfl)); (exact c0); (exact x_al (zc @e2 @Bool.not_false)); (try dsimp only [putA, optG]))
    (refine x_gg (zc @e2 @Bool.not_false) ?_)
    (first | exact x_ret (zc @e2 @Bool.not_false) | refine x_retZ (zc @e2 @Bool.not_false) ?_)
end Go.Proofs.Tryz
set_option maxHeartbeats 16000000
namespace Go.Proofs.Tryz
open Go.Vg

/-! numbers as text -/
theorem dgt_is (n : Nat) (h : n < 100) : Lib.decDigits n = dgt n := by
  unfold dgt
  rw [Lib.decDigits]
  split
  · rfl
  · rename_i h1
    rw [Lib.decDigits, dif_pos (by omega : n / 10 < 10)]
    rfl
theorem dcm_is {n : Int} (h : inR n) : (⟨(Lib.itoa n).toArray⟩ : ByteArray) = dcm n := by
  unfold inR at h
  unfold dcm dcL Lib.itoa
  split
  · rw [dgt_is _ (by omega)]
    congr 4; omega
  · rw [dgt_is _ (by omega)]
theorem itoa_pure {n : Int} (h : inR n) : Pure Tryz.prog 49 [.int n] (.str (dcm n)) := by
  rintro X w ρ _ hi ⟨v1, _, rfl, h1, rfl⟩
  have e1 : v1 = .int .i64 n := h1
  subst e1
  have hρ : ρ = [] := List.eq_nil_of_length_eq_zero (by rw [hi.len]; rfl)
  subst hρ
  obtain ⟨⟨e, fr, hb⟩, _⟩ := hi.gd.2.2 0 pow10V rfl
  have hg : Tryz.prog.globalNamed "internal/strconv.uint64pow10" = some 0 := by kernel_rfl
  have htab : Lib.TabIs Tryz.prog w "internal/strconv.uint64pow10" .u64 Lib.pow10Tab := by
    unfold Lib.TabIs World.var?
    rw [hg, Option.bind_some, hb]
    simp [Lib.pow10Tab, pow10V, List.map_map]
  have hr := h
  unfold inR at hr
  refine (Go.Proofs.Tryz.strconv_Itoa n (by omega) (by omega) w htab).mono ?_
  rintro e2 w' ⟨rfl, k, os, rfl⟩
  have T : Tr w [] (Sort.grow (w.drewN k) os) [] := by
    refine ⟨rfl, rfl, rfl, ?_, fun i r h => by simp at h, fun b _ hlt => ⟨fun r hr => (by cases hr), Sort.heap_grow_old (w.drewN k) os hlt⟩⟩
    have := Sort.size_grow (w.drewN k) os
    simp only [World.heap_drewN] at this
    omega
  refine ⟨_, _, [], [], rfl, ⟨rfl, rfl⟩, ?_, hi.keep T, T⟩
  rw [dcm_is h]
  rfl
theorem grow_spec (n : Nat) (j : Int) (hj : j = (n : Int)) (h : 1 ≤ n ∧ n ≤ 1000) : Go.Vg.Spec Tryz.prog 89 [.emp, .int j] [] (fun y m' => y = .osl 0 0 0 0 ∧ m' = [⟨0, .row 1 ((List.replicate n 0).map AV.int)⟩]) := by
  subst hj
  have e1 : decide ((n : Int) < 0) = false := decide_eq_false (by omega)
  have e2 : decide ((0 : Int) < (n : Int)) = true := decide_eq_true (by omega)
  (refine Spec.of_bodyA Tryz.func89 rfl (by rw [Tryz.ntmps89]; simp) ?_; rw [Tryz.results89, Tryz.ntmps89]; simp only [entry, zipArgs, Nat.reduceAdd])
  (refine x_gg (zc @e1 (zc @e2 (zc @Int.sub_zero @Int.sub_self))) ?_)
  (first | exact x_retA (zc @e1 (zc @e2 (zc @Int.sub_zero @Int.sub_self))) | refine x_retAZ (zc @e1 (zc @e2 (zc @Int.sub_zero @Int.sub_self))) ?_)
theorem grow0_pure : Pure Tryz.prog 89 [.emp, .int 0] .emp := by
  (refine Spec.bd 0 Tryz.func89 Tryz.results89 Tryz.ntmps89 ?_; simp only [entry, zipArgs, Nat.reduceAdd])
  (refine w_gg ?_)
  (first | exact w_ret | refine w_retZ ?_)
def cSz (a b : Nat) (k : Nat) : Nat := if k = 0 then 0 else if k = 1 then a else a + b
def cLs (a b : List Int) (k : Nat) : List Int := if k = 0 then [] else if k = 1 then a else a ++ b
theorem concat1_pure (a b : List Int) (h : 1 ≤ a.length + b.length) (ha : a.length ≤ 100) (hb : b.length ≤ 100) : Pure Tryz.prog 50 [.lst 1 [.ints a, .ints b]] (.ints (a ++ b)) := by
  (refine Spec.bd 0 Tryz.func50 Tryz.results50 Tryz.ntmps50 ?_; simp only [entry, zipArgs, Nat.reduceAdd])
  (refine w_go ?_)
  refine Wp.loop (fun (k : Nat) => { t := [(0, .lst 1 [.ints a, .ints b]), (9, .lst 1 [.ints a, .ints b]), (10, .int (0 + 1 + 1)), (11, .int k), (3, .int (cSz a.length b.length k))], m := [], n := 36 }) (fun k => k ≤ 2) (fun k => 2 - k) 0 ?_ ?_ ?_
  · (refine Le.of ?_ ?_ rfl rfl <;> (try simp only [push_cast, seval]) <;> (try (with_reducible rfl)))
    all_goals rfl
  · simp
  · rintro k hk
    have : k = 0 ∨ k = 1 ∨ k = 2 := by omega
    rcases this with rfl | rfl | rfl
    · have e1 : decide ((a.length : Int) < 0) = false := decide_eq_false (by omega)
      (refine x_gg (zc @e1 (zc @cSz.eq_1 @Int.zero_add)) ?_)
      refine ⟨1, ?_, by omega, by omega⟩
      (refine Le.of ?_ ?_ rfl rfl <;> (try simp only [push_cast, seval, e1, cSz, Int.zero_add]) <;> (try (with_reducible rfl)))
    · have e1 : decide ((a.length : Int) + (b.length : Int) < 0) = false := decide_eq_false (by omega)
      (refine x_gg (zc @e1 (zc @cSz.eq_1 @Int.zero_add)) ?_)
      refine ⟨2, ?_, by omega, by omega⟩
      (refine Le.of ?_ ?_ rfl rfl <;> (try simp only [push_cast, seval, e1, cSz, Int.zero_add]) <;> (try (with_reducible rfl)))
    · 
      (refine x_gg @cSz.eq_1 ?_)
      (apply Run.freshE (he := (Enters.of Tryz.func89 rfl rfl)); (simp only [push_cast, seval, cSz, Int.reduceAdd, Int.reduceLT] <;> first | exact rfl | assumption); (exact x_ev @cSz.eq_1); (exact grow_spec (a.length + b.length) _ (by simp) (by omega)); ((exact x_cl @cSz.eq_1)); (exact x_ev @cSz.eq_1); (exact x_ev @cSz.eq_1); dsimp only [S.put, optG])
      (refine x_gg @cSz.eq_1 ?_)
      refine Wp.loop (fun (k : Nat) => { t := [(25, .lst 1 [.ints a, .ints b]), (26, .int 2), (27, .int k), (6, .osl 0 k 0 (cLs a b k).length)], m := [⟨k, .row 1 (if k = 0 then (List.replicate (a.length + b.length) 0).map AV.int else (cLs a b k).map AV.int)⟩], n := 36 }) (fun k => k ≤ 2) (fun k => 2 - k) 0 ?_ ?_ ?_
      · (refine Le.of ?_ ?_ rfl rfl <;> (try simp only [push_cast, seval, cSz, Int.reduceAdd, Int.reduceLT]) <;> (try (with_reducible rfl)))
        all_goals rfl
      · simp
      · rintro k hk
        have : k = 0 ∨ k = 1 ∨ k = 2 := by omega
        rcases this with rfl | rfl | rfl
        · 
          (refine x_gg (zc @cLs.eq_1 @Int.zero_add) ?_)
          refine ⟨1, ?_, by omega, by omega⟩
          (refine Le.of ?_ ?_ rfl rfl <;> (try simp only [push_cast, seval, cLs, Int.reduceAdd, Int.reduceLT, Int.zero_add]) <;> (try (with_reducible rfl)))
          all_goals rfl
        · 
          (refine x_gg (zc @cLs.eq_1 (zc @Int.zero_add @lenAp)) ?_)
          refine ⟨2, ?_, by omega, by omega⟩
          (refine Le.of ?_ ?_ rfl rfl <;> (try simp only [push_cast, seval, cLs, Int.reduceAdd, Int.reduceLT, Int.zero_add, List.length_append]) <;> (try (with_reducible rfl)))
          all_goals rfl
        · 
          (refine x_gg (zc @cLs.eq_1 @Int.zero_add) ?_)
          (apply Wp.freeze 2; (exact x_ev (zc @cLs.eq_1 @Int.zero_add)); (exact x_ev (zc @cLs.eq_1 @Int.zero_add)); (focus (try simp only [push_cast, seval, cLs, Int.reduceAdd, Int.reduceLT, Int.zero_add]); (try (exact sT))); (focus (exact sT)))
          (first | exact x_ret (zc @cLs.eq_1 @Int.zero_add) | refine x_retZ (zc @cLs.eq_1 @Int.zero_add) ?_)
theorem concat_pure (a b : List Int) (ha : a.length ≤ 100) (hb : b.length ≤ 100) : Pure Tryz.prog 50 [.lst 1 [.ints a, .ints b]] (.ints (a ++ b)) := by
  by_cases h : 1 ≤ a.length + b.length
  · exact concat1_pure a b h ha hb
  · obtain rfl : a = [] := List.eq_nil_of_length_eq_zero (by omega)
    obtain rfl : b = [] := List.eq_nil_of_length_eq_zero (by omega)
    (refine Spec.bd 0 Tryz.func50 Tryz.results50 Tryz.ntmps50 ?_; simp only [entry, zipArgs, Nat.reduceAdd])
    (refine w_go ?_)
    refine Wp.loop (fun (k : Nat) => { t := [(0, .lst 1 [.ints [], .ints []]), (9, .lst 1 [.ints [], .ints []]), (10, .int (0 + 1 + 1)), (11, .int k), (3, .int 0)], m := [], n := 36 }) (fun k => k ≤ 2) (fun k => 2 - k) 0 ?_ ?_ ?_
    · (refine Le.of ?_ ?_ rfl rfl <;> (try simp only [push_cast, seval]) <;> (try (with_reducible rfl)))
      all_goals rfl
    · simp
    · rintro k hk
      have : k = 0 ∨ k = 1 ∨ k = 2 := by omega
      rcases this with rfl | rfl | rfl
      · (refine x_gg @lenNi ?_)
        refine ⟨1, ?_, by omega, by omega⟩
        (refine Le.of ?_ ?_ rfl rfl <;> (try simp only [push_cast, seval, Int.reduceLT, Int.reduceAdd, List.length_nil]) <;> (try (with_reducible rfl)))
      · (refine x_gg @lenNi ?_)
        refine ⟨2, ?_, by omega, by omega⟩
        (refine Le.of ?_ ?_ rfl rfl <;> (try simp only [push_cast, seval, Int.reduceLT, Int.reduceAdd, List.length_nil]) <;> (try (with_reducible rfl)))
      · (refine x_gg @lenNi ?_)
        (apply Run.pureFP; (exact x_ev @lenNi); (exact (Enters.of Tryz.func89 rfl rfl)); (exact grow0_pure); (exact x_al @lenNi); (try dsimp only [putA, optG]))
        (repeat (refine x_nr @lenNi ?_))
        (apply Run.nil; dsimp only [sQ, tQ, bQ])
        apply Wp.adopt 6 1; (exact x_ev @lenNi)
        (refine x_gg @lenNi ?_)
        refine Wp.loop (fun (k : Nat) => { t := [(25, .lst 1 [.ints [], .ints []]), (26, .int 2), (27, .int k), (6, .osl 0 k 0 0)], m := [⟨k, .row 1 []⟩], n := 36 }) (fun k => k ≤ 2) (fun k => 2 - k) 0 ?_ ?_ ?_
        · (refine Le.of ?_ ?_ rfl rfl <;> (try simp only [push_cast, seval, Int.reduceLT, Int.reduceAdd, List.length_nil]) <;> (try (with_reducible rfl)))
          all_goals rfl
        · simp
        · rintro k hk
          have : k = 0 ∨ k = 1 ∨ k = 2 := by omega
          rcases this with rfl | rfl | rfl
          · (refine x_gg @lenNi ?_)
            refine ⟨1, ?_, by omega, by omega⟩
            (refine Le.of ?_ ?_ rfl rfl <;> (try simp only [push_cast, seval, Int.reduceLT, Int.reduceAdd, List.length_nil]) <;> (try (with_reducible rfl)))
          · (refine x_gg @lenNi ?_)
            refine ⟨2, ?_, by omega, by omega⟩
            (refine Le.of ?_ ?_ rfl rfl <;> (try simp only [push_cast, seval, Int.reduceLT, Int.reduceAdd, List.length_nil]) <;> (try (with_reducible rfl)))
          · (refine x_gg @lenNi ?_)
            (apply Wp.freeze 2; (exact x_ev @lenNi); (exact x_ev @lenNi); (focus (try simp only [push_cast, seval, Int.reduceLT, Int.reduceAdd, List.length_nil]); (try (exact sT))); (focus (exact sT)))
            (first | exact x_ret @lenNi | refine x_retZ @lenNi ?_)
end Go.Proofs.Tryz
set_option maxHeartbeats 16000000
namespace Go.Proofs.Tryz
open Go.Vg

/-! the key of a stand -/
theorem dgt_len (n : Nat) : (dgt n).length ≤ 2 := by unfold dgt; split <;> simp
theorem dcL_len (n : Int) : (dcL n).length ≤ 3 := by
  unfold dcL
  split
  · have := dgt_len (-n).toNat; simp only [List.length_cons]; omega
  · have := dgt_len n.toNat; omega
theorem kyT_len (l : List Int) : (kyT l).length ≤ 4 * l.length := by
  induction l with
  | nil => simp [kyT]
  | cons a l ih =>
    have e : kyT (a :: l) = 32 :: (dcL a ++ kyT l) := by simp [kyT]
    have := dcL_len a
    rw [e]
    simp only [List.length_cons, List.length_append]
    omega
theorem bsz (l : List UInt8) : (⟨l.toArray⟩ : ByteArray).size = l.length := by
  show (⟨l.toArray⟩ : ByteArray).data.size = _
  simp
theorem dcm_size (n : Int) : (dcm n).size ≤ 3 := by unfold dcm; rw [bsz]; exact dcL_len n
theorem kyB_size (a : Int) (l : List Int) : (kyB a l).size ≤ 3 + 4 * l.length := by
  unfold kyB kyL
  rw [bsz, List.length_append]
  have := dcL_len a
  have := kyT_len l
  omega
theorem key_pure (r : Rm) (f s : St) (a : Int) (ha : inR a) (hs : s.ts.length ≤ 100 ∧ s.pp.length ≤ 100) (hk : ∀ n ∈ s.ts ++ s.pp, inR n) : Pure Tryz.prog 48 [.agg (kC r f s a)] (.str (kyB a (s.ts ++ s.pp))) := by
  have h0 := itoa_pure ha
  have h1 := concat_pure s.ts s.pp hs.1 hs.2
  have hl : (s.ts ++ s.pp).length = s.ts.length + s.pp.length := List.length_append
  have hkc := rfl (a := kC r f s a)
  (refine Spec.bd 0 Tryz.func48 Tryz.results48 Tryz.ntmps48 ?_; simp only [entry, zipArgs, Nat.reduceAdd])
  (refine w_go ?_)
  (apply Run.pureFP; (exact w_ev); (exact (Enters.of Tryz.func49 rfl rfl)); (exact h0); (exact w_al); (try dsimp only [putA, optG]))
  (refine w_go ?_)
  (apply Run.pureFP; (exact w_ev); (exact (Enters.of Tryz.func50 rfl rfl)); (exact h1); (exact w_al); (try dsimp only [putA, optG]))
  generalize s.ts ++ s.pp = l at *
  (refine w_go ?_)
  refine Wp.loop (fun (k : Nat) => { t := [(3, .str (kyB a (l.take k))), (16, .ints l), (17, .int l.length), (18, .int k)], m := [⟨0, .row 15 [.agg (kC r f s a)]⟩], n := 29 }) (fun k => k ≤ l.length) (fun k => l.length - k) 0 ?_ ?_ ?_
  · (refine Le.of ?_ ?_ rfl rfl <;> (try simp only [push_cast, seval]) <;> (try (with_reducible rfl)))
    all_goals first
      | rfl
      | (rw [← kyB_nil])
  · simp
  · rintro k hk1
    (refine w_go ?_)
    (apply Wp.cond; (exact w_ev))
    · (intro hc; first | replace hc := bT hc | skip)
      have hg : l.getD k 0 = l[k] := by simp [hc]
      have hn : inR (l.getD k 0) := hk _ (by rw [hg]; exact List.getElem_mem hc)
      have h2 := itoa_pure hn
      have hst : kyB a (l.take (k + 1)) = kyB a (l.take k) ++ (spB ++ dcm (l.getD k 0)) := by
        rw [← kyB_snoc, hg, List.take_succ, List.getElem?_eq_getElem hc]
        rfl
      have z1 := kyB_size a (l.take k)
      have z2 := dcm_size (l.getD k 0)
      have z3 : (l.take k).length ≤ k := List.length_take_le _ _
      have z4 : (⟨#[32]⟩ : ByteArray).size = 1 := rfl
      have z5 : ((⟨#[32]⟩ : ByteArray) ++ dcm (l.getD k 0)).size = (⟨#[32]⟩ : ByteArray).size + (dcm (l.getD k 0)).size := ByteArray.size_append
      (refine w_go ?_)
      generalize hx : l.getD k 0 = x at *
      (apply Run.pureFP; (exact x_ev @hx); (exact (Enters.of Tryz.func49 rfl rfl)); (exact h2); (exact x_al @hx); (try dsimp only [putA, optG]))
      (refine x_go @hx ?_)
      refine ⟨k + 1, ?_, by omega, by omega⟩
      (refine Le.of ?_ ?_ rfl rfl <;> (try simp only [push_cast, seval, hx]) <;> (try (with_reducible rfl)))
      all_goals first
        | rfl
        | (rw [hst]; rfl)
    · (intro hc; first | replace hc := bT hc | skip)
      obtain rfl : k = l.length := by omega
      (refine w_go ?_)
      (first | exact w_ret | refine w_retZ ?_)
      try rw [List.take_length]
end Go.Proofs.Tryz
set_option maxHeartbeats 16000000
namespace Go.Proofs.Tryz
open Go.Vg

/-! tasks: which can be done, and what they do -/
structure Tk where
  kd : Int
  nu : Int
  ar : Int
  deriving DecidableEq
def tkA (t : Tk) : AV := .agg [.int t.kd, .int t.nu, .int t.ar]
abbrev tk0 : Tk := ⟨0, 0, 0⟩
def wkB (r : Rm) (a : Int) (t : Tk) : Bool := decide (t.ar = 0) && wi t.nu 0 ((r.wy.length : Int) - 1) && (decide ((r.wy.getD t.nu.toNat wy0).a = a) || decide ((r.wy.getD t.nu.toNat wy0).b = a))
def tnB (r : Rm) (s : St) (a : Int) (t : Tk) : Bool := wi t.nu 0 ((r.ts.length : Int) - 1) && (decide ((r.ts.getD t.nu.toNat th0).pl = a) && wi t.ar 0 ((r.ts.getD t.nu.toNat th0).ss - 1) && !decide (s.ts.getD t.nu.toNat 0 = t.ar))
def ptB (r : Rm) (f s : St) (a : Int) (t : Tk) : Bool := decide (t.ar = 0) && wi t.nu 0 ((r.pp.length : Int) - 1) && !decide (s.pp.getD t.nu.toNat 0 = f.pp.getD t.nu.toNat 0) && (decide (f.pp.getD t.nu.toNat 0 = -1) || (decide (f.pp.getD t.nu.toNat 0 = a) && hdB s.ts (r.pp.getD t.nu.toNat pp0).wh))
def canB (r : Rm) (f s : St) (a : Int) (t : Tk) : Bool := if t.kd = 1 then wkB r a t else if t.kd = 2 then tnB r s a t else if t.kd = 3 then ptB r f s a t else false
def doS (r : Rm) (f s : St) (a : Int) (t : Tk) : St := if t.kd = 2 then { s with ts := s.ts.set t.nu.toNat t.ar } else if t.kd = 3 then { s with pp := s.pp.set t.nu.toNat (f.pp.getD t.nu.toNat 0) } else s
def doA (r : Rm) (a : Int) (t : Tk) : Int := if t.kd = 1 then (r.wy.getD t.nu.toNat wy0).a + (r.wy.getD t.nu.toNat wy0).b - a else a
theorem can_walk (r : Rm) (hy : r.wy.length ≤ 100) (f s : St) (a : Int) (t : Tk) (hk : t.kd = 1) : Pure Tryz.prog 52 [.ref (kC r f s a) 0, tkA t] (.bool (wkB r a t)) := by
  obtain ⟨kd, nu, ar⟩ := t
  simp only at hk
  subst hk
  unfold tkA wkB
  simp only
  have h1 := within2_pure nu 0 ((r.wy.length : Int) - 1)
  have hwi : wi nu 0 ((r.wy.length : Int) - 1) = true → 0 ≤ nu ∧ nu < r.wy.length := fun h => by unfold wi at h; simp only [Bool.and_eq_true, decide_eq_true_eq] at h; omega
  generalize wi nu 0 ((r.wy.length : Int) - 1) = w at h1 hwi
  have hkc := rfl (a := kC r f s a)
  cases hb0 : decide (ar = 0) with
  | false =>
    (refine Spec.bd 0 Tryz.func52 Tryz.results52 Tryz.ntmps52 ?_; simp only [entry, zipArgs, Nat.reduceAdd])
    (refine x_go (zc @hb0 @Bool.false_and) ?_)
    apply Wp.condT; (exact x_ev (zc @hb0 @Bool.false_and))
    (refine x_go (zc @hb0 @Bool.false_and) ?_)
    (refine Wp.rnD 49 ?_; apply exAb; (((refine x_abz (zc @hb0 @Bool.false_and) ?_); (first | ((apply Abn.pureP; (exact x_ev (zc @hb0 @Bool.false_and)); (exact (Enters.of Tryz.func67 rfl rfl)); (exact h1); (exact x_al (zc @hb0 @Bool.false_and)); (try dsimp only [putA, optG]))) | skip); (refine x_abz (zc @hb0 @Bool.false_and) ?_)); exact Abn.nil))
    (refine x_go (zc @hb0 @Bool.false_and) ?_)
    (first | exact x_ret (zc @hb0 @Bool.false_and) | refine x_retZ (zc @hb0 @Bool.false_and) ?_)
  | true =>
    cases w with
    | false =>
      (refine Spec.bd 0 Tryz.func52 Tryz.results52 Tryz.ntmps52 ?_; simp only [entry, zipArgs, Nat.reduceAdd])
      (refine x_go (zc @hb0 (zc @Bool.false_and (zc @Bool.and_false @Bool.true_and))) ?_)
      apply Wp.condT; (exact x_ev (zc @hb0 (zc @Bool.false_and (zc @Bool.and_false @Bool.true_and))))
      (refine x_go (zc @hb0 (zc @Bool.false_and (zc @Bool.and_false @Bool.true_and))) ?_)
      (refine Wp.rnD 49 ?_; apply exAb; (((refine x_abz (zc @hb0 (zc @Bool.false_and (zc @Bool.and_false @Bool.true_and))) ?_); (first | ((apply Abn.pureP; (exact x_ev (zc @hb0 (zc @Bool.false_and (zc @Bool.and_false @Bool.true_and)))); (exact (Enters.of Tryz.func67 rfl rfl)); (exact h1); (exact x_al (zc @hb0 (zc @Bool.false_and (zc @Bool.and_false @Bool.true_and)))); (try dsimp only [putA, optG]))) | skip); (refine x_abz (zc @hb0 (zc @Bool.false_and (zc @Bool.and_false @Bool.true_and))) ?_)); exact Abn.nil))
      (refine x_go (zc @hb0 (zc @Bool.false_and (zc @Bool.and_false @Bool.true_and))) ?_)
      (first | exact x_ret (zc @hb0 (zc @Bool.false_and (zc @Bool.and_false @Bool.true_and))) | refine x_retZ (zc @hb0 (zc @Bool.false_and (zc @Bool.and_false @Bool.true_and))) ?_)
    | true =>
      obtain ⟨hn1, hn2⟩ := hwi rfl
      obtain ⟨n, rfl⟩ : ∃ n : Nat, nu = n := ⟨nu.toNat, by omega⟩
      have hn3 : n < r.wy.length := by omega
      have hgd := fun d => getD_wy (d := d) hn3
      simp only [Int.toNat_natCast]
      obtain ⟨x, hx⟩ : ∃ x, r.wy.getD n wy0 = x := ⟨_, rfl⟩
      simp only [hx] at hgd ⊢
      cases hb1 : decide (x.a = a) with
      | true =>
        (refine Spec.bd 0 Tryz.func52 Tryz.results52 Tryz.ntmps52 ?_; simp only [entry, zipArgs, Nat.reduceAdd])
        (refine x_go (zc @hb0 (zc @hb1 (zc @Bool.false_and (zc @Bool.and_false (zc @Bool.true_and (zc @Bool.true_or (zc @Bool.false_or (zc @hgd (zc @wyA.eq_1 @Int.toNat_natCast))))))))) ?_)
        apply Wp.condT; (exact x_ev (zc @hb0 (zc @hb1 (zc @Bool.false_and (zc @Bool.and_false (zc @Bool.true_and (zc @Bool.true_or (zc @Bool.false_or (zc @hgd (zc @wyA.eq_1 @Int.toNat_natCast))))))))))
        (refine x_go (zc @hb0 (zc @hb1 (zc @Bool.false_and (zc @Bool.and_false (zc @Bool.true_and (zc @Bool.true_or (zc @Bool.false_or (zc @hgd (zc @wyA.eq_1 @Int.toNat_natCast))))))))) ?_)
        (refine Wp.rnD 49 ?_; apply exAb; (((refine x_abz (zc @hb0 (zc @hb1 (zc @Bool.false_and (zc @Bool.and_false (zc @Bool.true_and (zc @Bool.true_or (zc @Bool.false_or (zc @hgd (zc @wyA.eq_1 @Int.toNat_natCast))))))))) ?_); (first | ((apply Abn.pureP; (exact x_ev (zc @hb0 (zc @hb1 (zc @Bool.false_and (zc @Bool.and_false (zc @Bool.true_and (zc @Bool.true_or (zc @Bool.false_or (zc @hgd (zc @wyA.eq_1 @Int.toNat_natCast)))))))))); (exact (Enters.of Tryz.func67 rfl rfl)); (exact h1); (exact x_al (zc @hb0 (zc @hb1 (zc @Bool.false_and (zc @Bool.and_false (zc @Bool.true_and (zc @Bool.true_or (zc @Bool.false_or (zc @hgd (zc @wyA.eq_1 @Int.toNat_natCast)))))))))); (try dsimp only [putA, optG]))) | skip); (refine x_abz (zc @hb0 (zc @hb1 (zc @Bool.false_and (zc @Bool.and_false (zc @Bool.true_and (zc @Bool.true_or (zc @Bool.false_or (zc @hgd (zc @wyA.eq_1 @Int.toNat_natCast))))))))) ?_)); exact Abn.nil))
        (refine x_go (zc @hb0 (zc @hb1 (zc @Bool.false_and (zc @Bool.and_false (zc @Bool.true_and (zc @Bool.true_or (zc @Bool.false_or (zc @hgd (zc @wyA.eq_1 @Int.toNat_natCast))))))))) ?_)
        (first | exact x_ret (zc @hb0 (zc @hb1 (zc @Bool.false_and (zc @Bool.and_false (zc @Bool.true_and (zc @Bool.true_or (zc @Bool.false_or (zc @hgd (zc @wyA.eq_1 @Int.toNat_natCast))))))))) | refine x_retZ (zc @hb0 (zc @hb1 (zc @Bool.false_and (zc @Bool.and_false (zc @Bool.true_and (zc @Bool.true_or (zc @Bool.false_or (zc @hgd (zc @wyA.eq_1 @Int.toNat_natCast))))))))) ?_)
      | false =>
        (refine Spec.bd 0 Tryz.func52 Tryz.results52 Tryz.ntmps52 ?_; simp only [entry, zipArgs, Nat.reduceAdd])
        (refine x_go (zc @hb0 (zc @hb1 (zc @Bool.false_and (zc @Bool.and_false (zc @Bool.true_and (zc @Bool.true_or (zc @Bool.false_or (zc @hgd (zc @wyA.eq_1 @Int.toNat_natCast))))))))) ?_)
        apply Wp.condT; (exact x_ev (zc @hb0 (zc @hb1 (zc @Bool.false_and (zc @Bool.and_false (zc @Bool.true_and (zc @Bool.true_or (zc @Bool.false_or (zc @hgd (zc @wyA.eq_1 @Int.toNat_natCast))))))))))
        (refine x_go (zc @hb0 (zc @hb1 (zc @Bool.false_and (zc @Bool.and_false (zc @Bool.true_and (zc @Bool.true_or (zc @Bool.false_or (zc @hgd (zc @wyA.eq_1 @Int.toNat_natCast))))))))) ?_)
        (refine Wp.rnD 49 ?_; apply exAb; (((refine x_abz (zc @hb0 (zc @hb1 (zc @Bool.false_and (zc @Bool.and_false (zc @Bool.true_and (zc @Bool.true_or (zc @Bool.false_or (zc @hgd (zc @wyA.eq_1 @Int.toNat_natCast))))))))) ?_); (first | ((apply Abn.pureP; (exact x_ev (zc @hb0 (zc @hb1 (zc @Bool.false_and (zc @Bool.and_false (zc @Bool.true_and (zc @Bool.true_or (zc @Bool.false_or (zc @hgd (zc @wyA.eq_1 @Int.toNat_natCast)))))))))); (exact (Enters.of Tryz.func67 rfl rfl)); (exact h1); (exact x_al (zc @hb0 (zc @hb1 (zc @Bool.false_and (zc @Bool.and_false (zc @Bool.true_and (zc @Bool.true_or (zc @Bool.false_or (zc @hgd (zc @wyA.eq_1 @Int.toNat_natCast)))))))))); (try dsimp only [putA, optG]))) | skip); (refine x_abz (zc @hb0 (zc @hb1 (zc @Bool.false_and (zc @Bool.and_false (zc @Bool.true_and (zc @Bool.true_or (zc @Bool.false_or (zc @hgd (zc @wyA.eq_1 @Int.toNat_natCast))))))))) ?_)); exact Abn.nil))
        (refine x_go (zc @hb0 (zc @hb1 (zc @Bool.false_and (zc @Bool.and_false (zc @Bool.true_and (zc @Bool.true_or (zc @Bool.false_or (zc @hgd (zc @wyA.eq_1 @Int.toNat_natCast))))))))) ?_)
        (first | exact x_ret (zc @hb0 (zc @hb1 (zc @Bool.false_and (zc @Bool.and_false (zc @Bool.true_and (zc @Bool.true_or (zc @Bool.false_or (zc @hgd (zc @wyA.eq_1 @Int.toNat_natCast))))))))) | refine x_retZ (zc @hb0 (zc @hb1 (zc @Bool.false_and (zc @Bool.and_false (zc @Bool.true_and (zc @Bool.true_or (zc @Bool.false_or (zc @hgd (zc @wyA.eq_1 @Int.toNat_natCast))))))))) ?_)
end Go.Proofs.Tryz
