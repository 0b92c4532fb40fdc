/- A part of the proof of ResetBack: contracts of functions, with plain laws that they need. -/
import Derived.Shelf.Sort.Plain
import Derived.Shelf.Slices.CompactI
import Derived.Shelf.Slices.Delete
import Derived.Shelf.Slices.Empties
import Derived.Shelf.Slices.Empties2
import Derived.Ground.Names2Prog
import Derived.Shelf.Slices.In.SortNone
import Derived.Carry
import Derived.OpenShut
import Derived.Deep.Slices
import Derived.Deep.Strs
import Derived.Deep.DeepHandedRow
import Derived.Lib.LaidTab
import Derived.Lib.ItoaNum
import Derived.Test.YtjhljokghikamaaGreatDoorVgR33J
set_option linter.all false
namespace Go.Proofs
open Go.Shelf
open Go.RowKit Go.Lib Go.Sort
def Tryz.lays189_ren : Go.Shelf.Ren := ⟨fun | 189 => 74 | 125 => 99 | 257 => 98 | 128 => 128 | 129 => 129 | 294 => 119 | 295 => 120 | 296 => 121 | 297 => 122 | 298 => 123 | 299 => 124 | 216 => 125 | 300 => 126 | 301 => 127 | 328 => 154 | 329 => 155 | 330 => 156 | 331 => 157 | 332 => 158 | 215 => 159 | 343 => 179 | n => n, fun | 28 => 32 | 3 => 3 | 46 => 145 | 0 => 0 | 51 => 173 | 53 => 175 | 4 => 4 | 183 => 166 | 182 => 165 | 131 => 94 | 5 => 5 | 9 => 9 | 218 => 196 | 222 => 200 | 228 => 221 | 229 => 222 | n => n, fun | n => n⟩
theorem Tryz.lays189 : Go.Proofs.Lays.n189 Tryz.prog Tryz.lays189_ren := {
  mixed := by kernel_rfl
  f125 := Tryz.func99.trans (congrArg some (by kernel_rfl))
  f128 := Tryz.func128.trans (congrArg some (by kernel_rfl))
  f129 := Tryz.func129.trans (congrArg some (by kernel_rfl))
  f189 := Tryz.func74.trans (congrArg some (by kernel_rfl))
  f215 := Tryz.func159.trans (congrArg some (by kernel_rfl))
  f216 := Tryz.func125.trans (congrArg some (by kernel_rfl))
  f257 := Tryz.func98.trans (congrArg some (by kernel_rfl))
  f294 := Tryz.func119.trans (congrArg some (by kernel_rfl))
  f295 := Tryz.func120.trans (congrArg some (by kernel_rfl))
  f296 := Tryz.func121.trans (congrArg some (by kernel_rfl))
  f297 := Tryz.func122.trans (congrArg some (by kernel_rfl))
  f298 := Tryz.func123.trans (congrArg some (by kernel_rfl))
  f299 := Tryz.func124.trans (congrArg some (by kernel_rfl))
  f300 := Tryz.func126.trans (congrArg some (by kernel_rfl))
  f301 := Tryz.func127.trans (congrArg some (by kernel_rfl))
  f328 := Tryz.func154.trans (congrArg some (by kernel_rfl))
  f329 := Tryz.func155.trans (congrArg some (by kernel_rfl))
  f330 := Tryz.func156.trans (congrArg some (by kernel_rfl))
  f331 := Tryz.func157.trans (congrArg some (by kernel_rfl))
  f332 := Tryz.func158.trans (congrArg some (by kernel_rfl))
  f343 := Tryz.func179.trans (congrArg some (by kernel_rfl))
  t0 := Tryz.underlying0
  a0 := Tryz.isAgg0
  z0 := Tryz.sizeOf0
  v0 := Tryz.zeroValue0
  t3 := Tryz.underlying3
  a3 := Tryz.isAgg3
  z3 := Tryz.sizeOf3
  v3 := Tryz.zeroValue3
  t4 := Tryz.underlying4
  a4 := Tryz.isAgg4
  z4 := Tryz.sizeOf4
  v4 := Tryz.zeroValue4
  t5 := Tryz.underlying5
  a5 := Tryz.isAgg5
  z5 := Tryz.sizeOf5
  v5 := Tryz.zeroValue5
  t9 := Tryz.underlying9
  a9 := Tryz.isAgg9
  z9 := Tryz.sizeOf9
  v9 := Tryz.zeroValue9
  t28 := Tryz.underlying32
  a28 := Tryz.isAgg32
  z28 := Tryz.sizeOf32
  v28 := Tryz.zeroValue32
  t46 := Tryz.underlying145
  a46 := Tryz.isAgg145
  z46 := Tryz.sizeOf145
  v46 := Tryz.zeroValue145
  t51 := Tryz.underlying173
  a51 := Tryz.isAgg173
  z51 := Tryz.sizeOf173
  v51 := Tryz.zeroValue173
  t53 := Tryz.underlying175
  a53 := Tryz.isAgg175
  z53 := Tryz.sizeOf175
  v53 := Tryz.zeroValue175
  t131 := Tryz.underlying94
  a131 := Tryz.isAgg94
  z131 := Tryz.sizeOf94
  v131 := Tryz.zeroValue94
  t182 := Tryz.underlying165
  a182 := Tryz.isAgg165
  z182 := Tryz.sizeOf165
  v182 := Tryz.zeroValue165
  t183 := Tryz.underlying166
  a183 := Tryz.isAgg166
  z183 := Tryz.sizeOf166
  v183 := Tryz.zeroValue166
  t218 := Tryz.underlying196
  a218 := Tryz.isAgg196
  z218 := Tryz.sizeOf196
  v218 := Tryz.zeroValue196
  t222 := Tryz.underlying200
  a222 := Tryz.isAgg200
  z222 := Tryz.sizeOf200
  v222 := Tryz.zeroValue200
  t228 := Tryz.underlying221
  a228 := Tryz.isAgg221
  z228 := Tryz.sizeOf221
  v228 := Tryz.zeroValue221
  t229 := Tryz.underlying222
  a229 := Tryz.isAgg222
  z229 := Tryz.sizeOf222
  v229 := Tryz.zeroValue222 }
theorem Tryz.slices_Sort_int (blk off cap : Nat) (zs : List Int) (w : World) (hH : Holds (Value.int .i64) w blk off zs.toArray) (hblk : blk < w.heap.size) (hsz : zs.length < 4611686018427387904) :
    Calls Tryz.prog 74 #[.slice (some ⟨blk, off, none⟩) zs.length cap] w fun e w' =>
      e = .returned (.tuple #[]) ∧ ∃ n os, w' = grow (putRow (Value.int .i64) (Sort.ahead w n) blk off (zs.mergeSort fun x y => decide (x ≤ y)).toArray) os := Any.slices_Sort_int Tryz.lays189 blk off cap zs w hH hblk hsz

def Tryz.laysNm220_ren : Go.Shelf.Ren := ⟨fun | 20 => 75 | n => n, fun | 22 => 32 | 3 => 3 | 4 => 4 | 0 => 0 | n => n, fun | n => n⟩
theorem Tryz.laysNm220 : Go.Proofs.Lays2.n20 Tryz.prog Tryz.laysNm220_ren := {
  mixed := by kernel_rfl
  f20 := Tryz.func75.trans (congrArg some (by kernel_rfl))
  t0 := Tryz.underlying0
  a0 := Tryz.isAgg0
  z0 := Tryz.sizeOf0
  v0 := Tryz.zeroValue0
  t3 := Tryz.underlying3
  a3 := Tryz.isAgg3
  z3 := Tryz.sizeOf3
  v3 := Tryz.zeroValue3
  t4 := Tryz.underlying4
  a4 := Tryz.isAgg4
  z4 := Tryz.sizeOf4
  v4 := Tryz.zeroValue4
  t22 := Tryz.underlying32
  a22 := Tryz.isAgg32
  z22 := Tryz.sizeOf32
  v22 := Tryz.zeroValue32
  i3 := by kernel_rfl }
theorem Tryz.slices_Compact_int (blk off cap : Nat) (zs : List Int) (w : World) (hH : Holds (Value.int .i64) w blk off zs.toArray) (hsz : zs.length ≤ 9223372036854775807) (hcap : zs.length ≤ cap) :
    Calls Tryz.prog 75 #[.slice (some ⟨blk, off, none⟩) zs.length cap] w fun e w' => e = .returned (.slice (some ⟨blk, off, none⟩) (Lib.compact zs).length cap) ∧ ∃ q, w' = putRow (Value.int .i64) (Sort.ahead w q) blk off (Lib.compact zs ++ List.replicate (zs.length - (Lib.compact zs).length) 0).toArray := Any.slices_Compact_int Tryz.laysNm220 blk off cap zs w hH hsz hcap
theorem Tryz.slices_Compact_int_empty (a : Option Addr) (cap : Nat) (w : World) :
    Calls Tryz.prog 75 #[.slice a 0 cap] w fun e w' => e = .returned (.slice a 0 cap) ∧ w' = w := Any.slices_Compact_int_empty Tryz.laysNm220 a cap w

theorem Tryz.slices_Sort_int_none (p : Option Addr) (cap : Nat) (w : World) :
    Calls Tryz.prog 74 #[.slice p 0 cap] w fun e w' => e = .returned (.tuple #[]) ∧ w' = w := Any.slices_Sort_int_none Tryz.lays189 p cap w

end Go.Proofs
set_option maxHeartbeats 4000000
namespace Go.Proofs.Tryz
open Go.Vg Go.RowKit Go.Sort

/-! slices.Sort, Compact and Delete, of our own ints -/
theorem Inv_more {X : Nat → Prop} {w w' : World} {ρ : Rho} {m : Mem} (hi : Inv X w ρ m) (hb : ∀ b, b < w.heap.size → w'.heap[b]? = w.heap[b]?) (hs : w.heap.size ≤ w'.heap.size) (h1 : w'.os = w.os) (h2 : w'.tape = w.tape) (h3 : w'.output = w.output) : Inv X w' ρ m ∧ Tr w ρ w' ρ := by
  have ht : Tr w ρ w' ρ := ⟨h1, h2, h3, hs, fun _ r h => ⟨r, h, Nat.le_refl _, fun _ => rfl⟩, fun b hb' hlt => ⟨hb', hb b hlt⟩⟩
  refine ⟨⟨hi.len, fun i r e hr he => ?_, hi.apart, fun i r b hr hb' => ⟨Nat.lt_of_lt_of_le (hi.new i r b hr hb').1 hs, (hi.new i r b hr hb').2⟩, fun b hx => Nat.lt_of_lt_of_le (hi.out b hx) hs, hi.gd.tr ht⟩, ht⟩
  obtain ⟨q1, q2⟩ := hi.at_ i r e hr he
  exact ⟨q1, q2.mono ht.kp fun b hb' => hb b (hi.new i r b hr hb').1⟩
/-- a row of ints that is turned in place -/
theorem rowTurn {X : Nat → Prop} {w : World} {ρ : Rho} {m : Mem} {id ver b : Nat} {l L : List Int} {r : RE} (hi : Inv X w ρ m) (hm : m[id]? = some ⟨ver, .row 1 (l.map AV.int)⟩) (hr : ρ[id]? = some r) (hb : r.blk = some b) (hL : L.length = l.length) :
    b < w.heap.size ∧ Holds (Value.int .i64) w b (r.base + 0 * r.sz) l.toArray ∧ ∀ nd os, Inv X (Sort.grow (putRow (Value.int .i64) (Sort.ahead w nd) b (r.base + 0 * r.sz) L.toArray) os) ρ (m.set id ⟨ver, .row 1 (L.map AV.int)⟩) ∧ Tr w ρ (Sort.grow (putRow (Value.int .i64) (Sort.ahead w nd) b (r.base + 0 * r.sz) L.toArray) os) ρ := by
  obtain ⟨r', hr', hver, hsz, hnone, hblk⟩ := hi.row hm
  rw [hr] at hr'; cases hr'
  obtain ⟨⟨arr, e0, fr, ha1, ha2, ha3, ha4⟩, hfitl, hrow⟩ := hblk b hb
  have hrowat : RowAt w b arr := ⟨e0, fr, ha1, ha3, ha4⟩
  rw [List.length_map] at hfitl
  rw [Nat.mul_one] at hfitl
  have hcell : ∀ j (hj : j < l.length), w.cell? ⟨b, r.base + j, none⟩ = some (.int .i64 l[j]) := by
    intro j hj
    obtain ⟨_, u, q1, _, q3⟩ := hrow.nth (i := j) (x := AV.int l[j]) (by simp [hj])
    have q3 : u = .int .i64 l[j] := q3
    rw [q3, Nat.mul_one] at q1
    exact q1
  have hH : Holds (Value.int .i64) w b (r.base + 0 * r.sz) l.toArray := by
    intro j hj
    have hj : j < l.length := by simpa using hj
    rw [Nat.zero_mul, Nat.add_zero]
    refine ⟨?_, hrowat.frozen (by omega)⟩
    rw [hcell j hj]
    simp [hj]
  have hblt : b < w.heap.size := (Array.getElem?_eq_some_iff.1 ha1).1
  refine ⟨hblt, hH, fun nd os => ?_⟩
  rw [Nat.zero_mul, Nat.add_zero]
  have hput : (putRow (Value.int .i64) (Sort.ahead w nd) b r.base L.toArray).heap[b]? = some (.cells (putCells (Value.int .i64) r.base L.toArray arr) e0 fr) := by
    show (w.heap.modify b _)[b]? = _
    rw [Array.getElem?_modify, if_pos rfl, ha1]; rfl
  have hoth : ∀ k, k ≠ b → (putRow (Value.int .i64) (Sort.ahead w nd) b r.base L.toArray).heap[k]? = w.heap[k]? := by
    intro k hk
    show (w.heap.modify b _)[k]? = _
    rw [Array.getElem?_modify, if_neg (Ne.symm hk)]
  have hszp : (putRow (Value.int .i64) (Sort.ahead w nd) b r.base L.toArray).heap.size = w.heap.size := Array.size_modify
  have hturn : Turns w b (putRow (Value.int .i64) (Sort.ahead w nd) b r.base L.toArray) := ⟨rfl, rfl, rfl, hszp, hoth⟩
  have hsc : (putCells (Value.int .i64) r.base L.toArray arr).size = arr.size := by simp [putCells]
  have hra : RowAt (putRow (Value.int .i64) (Sort.ahead w nd) b r.base L.toArray) b (putCells (Value.int .i64) r.base L.toArray arr) := ⟨e0, fr, hput, ha3, by rw [hsc]; exact ha4⟩
  have hinv := hi.write hr hb hver hturn (l' := L.map AV.int) hsz hra (by rw [hsc]; exact ha2) (by rw [List.length_map, Nat.mul_one]; omega) (by
    refine Rrow_of_cells fun i x hx => ?_
    have hil : i < L.length := by
      have := (List.getElem?_eq_some_iff.1 hx).1
      simpa using this
    have hxe : x = AV.int L[i] := by simpa [hil] using hx.symm
    subst hxe
    refine ⟨rfl, .int .i64 L[i], ?_, rfl, rfl⟩
    rw [Nat.mul_one, hra.cell]
    have hai : r.base + i < arr.size := by omega
    simp only [putCells, Array.getElem?_mapIdx]
    rw [Array.getElem?_eq_getElem hai]
    simp [hil])
  have htr := Tr.turn hr hb hturn
  obtain ⟨g1, g2⟩ := Inv_more (w' := Sort.grow (putRow (Value.int .i64) (Sort.ahead w nd) b r.base L.toArray) os) hinv (fun k hk => by
    show (_ ++ os)[k]? = _
    rw [Array.getElem?_append_left hk]) (by show _ ≤ (_ ++ os).size; rw [Array.size_append]; omega) rfl rfl rfl
  exact ⟨g1, htr.trans g2⟩
theorem set_samI {m : Mem} {id : Nat} {e : Ent} (h : m[id]? = some e) : m.set id e = m := by
  have hidl : id < m.length := (List.getElem?_eq_some_iff.1 h).1
  apply List.ext_getElem?
  intro k
  by_cases hk : k = id
  · subst hk; rw [List.getElem?_set_self hidl, h]
  · rw [List.getElem?_set_ne (Ne.symm hk)]
def srtI (l : List Int) : List Int := l.mergeSort fun x y => decide (x ≤ y)
theorem srtI_len (l : List Int) : (srtI l).length = l.length := List.length_mergeSort l
theorem sort_spec {m : Mem} {id ver : Nat} {l : List Int} (hm : m[id]? = some ⟨ver, .row 1 (l.map AV.int)⟩) (hlen : l.length ≤ 1000) :
    Go.Vg.Spec Tryz.prog 74 [.osl id ver 0 l.length] m (fun x m' => x = .any ∧ m' = m.set id ⟨ver, .row 1 ((srtI l).map AV.int)⟩) := by
  rintro X w ρ _ hi ⟨v, _, rfl, ⟨A, c, r, rfl, hr, hle, hat⟩, rfl⟩
  obtain ⟨r', hr', hver, _⟩ := hi.row hm
  rw [hr] at hr'; cases hr'
  obtain ⟨h1, h2, h3⟩ := hat hver.symm
  by_cases h0 : l.length = 0
  · have hl : l = [] := List.eq_nil_of_length_eq_zero h0
    subst hl
    refine (Go.Proofs.Tryz.slices_Sort_int_none A c w).mono ?_
    rintro e w' ⟨rfl, rfl⟩
    refine ⟨_, .any, _, ρ, rfl, ⟨rfl, rfl⟩, trivial, ?_, Tr.refl _ _⟩
    rw [show srtI [] = [] from by simp [srtI], set_samI hm]; exact hi
  · obtain ⟨b, hb, rfl, hfit⟩ := h3 (by omega)
    obtain ⟨g1, g2, g3⟩ := rowTurn (L := srtI l) hi hm hr hb (srtI_len l)
    refine (Go.Proofs.Tryz.slices_Sort_int b (r.base + 0 * r.sz) c l w g2 g1 (by omega)).mono ?_
    rintro e w' ⟨rfl, nd, os, rfl⟩
    obtain ⟨k1, k2⟩ := g3 nd os
    exact ⟨_, .any, _, ρ, rfl, ⟨rfl, rfl⟩, trivial, k1, k2⟩
def cmpI (l : List Int) : List Int := Lib.compact l
theorem cmpI_len (l : List Int) : (cmpI l).length ≤ l.length := by
  unfold cmpI Lib.compact Lib.compactUpTo
  rw [List.length_map]
  exact Nat.le_trans (List.length_filter_le _ _) (by simp)
theorem grow0 (w : World) : Sort.grow w #[] = w := by
  unfold Sort.grow
  simp
theorem compact_spec {m : Mem} {id ver : Nat} {l : List Int} (hm : m[id]? = some ⟨ver, .row 1 (l.map AV.int)⟩) (hlen : l.length ≤ 1000) :
    Go.Vg.Spec Tryz.prog 75 [.osl id ver 0 l.length] m (fun x m' => x = .osl id ver 0 (cmpI l).length ∧ m' = m.set id ⟨ver, .row 1 ((cmpI l ++ List.replicate (l.length - (cmpI l).length) 0).map AV.int)⟩) := by
  rintro X w ρ _ hi ⟨v, _, rfl, ⟨A, c, r, rfl, hr, hle, hat⟩, rfl⟩
  obtain ⟨r', hr', hver, _⟩ := hi.row hm
  rw [hr] at hr'; cases hr'
  obtain ⟨h1, h2, h3⟩ := hat hver.symm
  have hcl := cmpI_len l
  by_cases h0 : l.length = 0
  · have hl : l = [] := List.eq_nil_of_length_eq_zero h0
    subst hl
    refine (Go.Proofs.Tryz.slices_Compact_int_empty A c w).mono ?_
    rintro e w' ⟨rfl, rfl⟩
    have hc0 : cmpI [] = [] := List.eq_nil_of_length_eq_zero (by simpa using hcl)
    refine ⟨_, .osl id ver 0 (cmpI []).length, _, ρ, rfl, ⟨rfl, rfl⟩, ⟨A, c, r, by rw [hc0]; rfl, hr, hle, fun e => ⟨by rw [hc0]; simp, h2, h3⟩⟩, ?_, Tr.refl _ _⟩
    rw [hc0]
    rw [show ([] ++ List.replicate (([] : List Int).length - ([] : List Int).length) (0 : Int)) = [] from rfl, set_samI hm]; exact hi
  · obtain ⟨b, hb, rfl, hfit⟩ := h3 (by omega)
    obtain ⟨g1, g2, g3⟩ := rowTurn (L := cmpI l ++ List.replicate (l.length - (cmpI l).length) 0) hi hm hr hb (by simp; omega)
    refine (Go.Proofs.Tryz.slices_Compact_int b (r.base + 0 * r.sz) c l w g2 (by omega) h1).mono ?_
    rintro e w' ⟨rfl, nd, rfl⟩
    obtain ⟨k1, k2⟩ := g3 nd #[]
    rw [grow0] at k1 k2
    exact ⟨_, .osl id ver 0 (cmpI l).length, _, ρ, rfl, ⟨rfl, rfl⟩, ⟨_, c, r, rfl, hr, hle, fun e => ⟨by omega, h2, h3⟩⟩, k1, k2⟩
end Go.Proofs.Tryz
set_option maxHeartbeats 4000000
namespace Go.Proofs.Tryz
open Go.Vg

/-! sorted and compacted lists (plain) -/
end Go.Proofs.Tryz
set_option maxHeartbeats 16000000
namespace Go.Proofs.Tryz
open Go.Vg

/-! photographs, many -/
abbrev ph0 : Ph := ⟨0, [], []⟩
theorem getD_ph {l : List Ph} {i : Nat} {d : AV} (h : i < l.length) : (l.map phA).getD i d = phA (l.getD i ph0) := getD_mapE phA l ph0 h
theorem okL_ph (k : Nat) (l : List Ph) : okL k (l.map phA) = True := eq_true (okL_mapR k l fun x => by simp [phA, AV.ok, okL, okL_mapInt])
theorem memPh {l : List Ph} {k : Nat} (h : k < l.length) : l.getD k ph0 ∈ l := by
  rw [show l.getD k ph0 = l[k] by simp [h]]; exact List.getElem_mem h
end Go.Proofs.Tryz
set_option maxHeartbeats 16000000
namespace Go.Proofs.Tryz
open Go.Vg

/-! Compare -/
/-- a photograph that could be one of the room -/
def cpB (r : Rm) (x : Ph) : Bool := wi x.at_ 0 ((r.ps.length : Int) - 1) && decide (x.ts.length = r.ts.length) && decide (x.pp.length = r.pp.length)
/-- a photograph that differs from that of its place -/
def dfB (r : Rm) (s : St) (x : Ph) : Bool := !decide (x.ts = (phO r s x.at_).ts) || !decide (x.pp = (phO r s x.at_).pp)
def dfL (r : Rm) (s : St) (l : List Ph) (k : Nat) : List Int := ((l.take k).filter (dfB r s)).map Ph.at_
theorem dfL_succ (r : Rm) (s : St) {l : List Ph} {k : Nat} (hk : k < l.length) : dfL r s l (k + 1) = if dfB r s (l.getD k ph0) = true then dfL r s l k ++ [(l.getD k ph0).at_] else dfL r s l k := by
  unfold dfL
  rw [List.take_succ_eq_append_getElem hk, List.filter_append, List.map_append, show l.getD k ph0 = l[k] by simp [hk]]
  split
  · rename_i h; rw [List.filter_cons_of_pos h]; rfl
  · rename_i h; rw [List.filter_cons_of_neg h]; simp
theorem dfL_len (r : Rm) (s : St) (l : List Ph) (k : Nat) : (dfL r s l k).length ≤ l.length := by
  unfold dfL
  rw [List.length_map]
  refine Nat.le_trans (List.length_filter_le _ _) ?_
  rw [List.length_take]; omega
def coA (r : Rm) (s : St) (l : List Ph) : AV := if begE r s = 0 then (if l.all (cpB r) = true then .tup [.ints (cmpI (srtI (dfL r s l l.length))), .int 0] else .tup [.emp, .int 1]) else .tup [.emp, .int (begE r s)]
theorem Compare_pure {r : Rm} (hz : Sz r) {s : St} (hs : Zs s) (l : List Ph) (hl : l.length ≤ 100) (hx : ∀ x ∈ l, x.ts.length ≤ 1000 ∧ x.pp.length ≤ 1000) : Pure Tryz.prog 38 [rmA r, stA s, .lst 3 (l.map phA)] (coA r s l) := by
  have hTAl : (l.map phA).length = l.length := List.length_map _
  have hok := okL_ph 0 l
  have hgd : ∀ k, k < l.length → ∀ d, (l.map phA).getD k d = phA (l.getD k ph0) := fun k hk d => getD_ph hk
  have z1 := hz.ps
  have z2 := hz.ts
  have z3 := hz.pp
  unfold coA
  by_cases h1 : begE r s = 0
  · have c0 := begin_pure hz hs h1
    have c1 := fun p => photo_pure hz (bgS r) hs (begE_zero h1).2 0 p
    rw [if_pos h1]
    have hfz : (if l.all (cpB r) = true then (AV.tup [.ints (cmpI (srtI (dfL r s l l.length))), .int 0]) else .tup [.emp, .int 1]) = (if l.all (cpB r) = true then (AV.tup [.ints (cmpI (srtI (dfL r s l l.length))), .int 0]) else .tup [.emp, .int 1]) := rfl
    generalize bgS r = f at *
    generalize l.map phA = TA at *
    unfold rmA rmC at *
    unfold stA at *
    (refine Spec.bd 0 Tryz.func38 Tryz.results38 Tryz.ntmps38 ?_; simp only [entry, zipArgs, Nat.reduceAdd])
    ((refine x_pre (zc @hTAl @hok) ?_); (iterate 4 (refine x_nr (zc @hTAl @hok) ?_)); (refine x_nil (zc @hTAl @hok) ?_))
    (refine x_fzP (zc @hTAl @hok) (slq 3) ?_)
    (refine x_fzP (zc @hTAl @hok) (slq 4) ?_)
    (refine x_go (zc @hTAl @hok) ?_)
    (apply Run.pureFP; (exact x_ev (zc @hTAl @hok)); (exact (Enters.of Tryz.func46 rfl rfl)); (exact c0); (exact x_al (zc @hTAl @hok)); (try dsimp only [putA, optG]))
    (refine x_gg (zc @hTAl @hok) ?_)
    (refine Wp.vacs 1 ?_; (try simp only [List.replicate_succ, List.replicate_zero, List.cons_append, List.nil_append]))
    refine Wp.loop (fun (q : Nat × Nat × Kind) => { t := [(2, .lst 3 TA), (3, .ref [.strs r.ps, .lst 4 (r.ts.map thA), .lst 3 (r.pp.map ppA), .lst 3 (r.wy.map wyA), .lst 8 (r.ac.map acA), .lst 3 (r.au.map auA), .int r.n, .lst 3 (r.goal.map ltA)] 0), (6, .emp), (8, .ref (kC r f s 0) 0), (23, .lst 3 TA), (24, .int l.length), (25, .int q.1)], m := [⟨1, .row 8 []⟩, ⟨1, .row 3 []⟩, ⟨q.2.1, q.2.2⟩], n := 90 })
      (fun q => q.1 ≤ l.length ∧ ∀ j, j < q.1 → cpB r (l.getD j ph0) = true) (fun q => l.length - q.1) (0, 0, .row 1 []) ?_ ?_ ?_
    · (refine Le.of ?_ ?_ rfl rfl <;> (try simp only [push_cast, seval, hTAl, hok]) <;> (try (with_reducible rfl)))
    · exact ⟨Nat.zero_le _, fun j hj => by simp only at hj; omega⟩
    · rintro ⟨k, v, kd⟩ ⟨hk1, hk2⟩
      simp only at hk1 hk2
      (refine x_go (zc @hTAl @hok) ?_)
      (apply Wp.cond; (exact x_ev (zc @hTAl @hok)))
      · intro hk
        have hk : k < l.length := by simpa using hk
        have htg := hgd k hk
        have hxk := hx _ (memPh hk)
        have hin := memPh hk
        have hcp : cpB r (l.getD k ph0) = (wi (l.getD k ph0).at_ 0 ((r.ps.length : Int) - 1) && decide ((l.getD k ph0).ts.length = r.ts.length) && decide ((l.getD k ph0).pp.length = r.pp.length)) := rfl
        obtain ⟨x, hxx⟩ : ∃ x, l.getD k ph0 = x := ⟨_, rfl⟩
        simp only [hxx] at htg hxk hin hcp
        have c2 := within2_pure x.at_ 0 ((r.ps.length : Int) - 1)
        generalize wi x.at_ 0 ((r.ps.length : Int) - 1) = w at c2 hcp
        unfold phA at htg
        (refine x_gs (zc @hTAl (zc @hok @htg)) ?_)
        (apply Run.alcAt 2; (exact x_ev (zc @hTAl (zc @hok @htg))); ((try simp only [push_cast, seval, hTAl, hok, htg]) <;> exact sT); exact rfl; (try simp only [push_cast, seval, hTAl, hok, htg]))
        (refine x_go (zc @hTAl (zc @hok @htg)) ?_)
        (apply Run.pureP; (exact x_ev (zc @hTAl (zc @hok @htg))); (exact (Enters.of Tryz.func67 rfl rfl)); (exact c2); (exact x_al (zc @hTAl (zc @hok @htg))); (try dsimp only [putA, optG]))
        (refine x_go (zc @hTAl (zc @hok @htg)) ?_)
        (apply Wp.cond; (exact x_ev (zc @hTAl (zc @hok @htg))))
        · intro hq
          (refine x_go (zc @hTAl (zc @hok @htg)) ?_)
          (first | exact x_ret (zc @hTAl (zc @hok @htg)) | refine x_retZ (zc @hTAl (zc @hok @htg)) ?_)
          have hno : l.all (cpB r) = false := by
            rw [List.all_eq_false]
            refine ⟨x, hin, ?_⟩
            rw [hcp]
            revert hq
            simp
            cases w <;> simp
            intro hq a b
            omega
          rw [hno, if_neg (by simp)]
        · intro hq
          (refine x_go (zc @hTAl (zc @hok @htg)) ?_)
          refine ⟨(k + 1, v + 1, .row 3 [.agg [.int x.at_, .ints x.ts, .ints x.pp]]), ?_, ⟨by simp only; omega, fun j hj => ?_⟩, by simp only; omega⟩
          · (refine Le.of ?_ ?_ rfl rfl <;> (try simp only [push_cast, seval, hTAl, hok, htg]) <;> (try (with_reducible rfl)))
          · by_cases hjk : j = k
            · subst hjk
              rw [hxx, hcp]
              revert hq
              simp
              cases w <;> simp
              omega
            · exact hk2 j (by simp only at hj; omega)
      · intro hk
        obtain rfl : k = l.length := by
          have : ¬ k < l.length := by simpa using hk
          omega
        have hall : l.all (cpB r) = true := by
          rw [List.all_eq_true]
          intro x hx2
          obtain ⟨j, hj, rfl⟩ := List.getElem_of_mem hx2
          have := hk2 j hj
          rwa [show l.getD j ph0 = l[j] by simp [hj]] at this
        rw [hall, if_pos rfl]
        clear hfz
        (refine x_go (zc @hTAl @hok) ?_)
        apply Wp.adopt 6 1; (exact x_ev (zc @hTAl @hok))
        (refine Wp.vacs 2 ?_; (try simp only [List.replicate_succ, List.replicate_zero, List.cons_append, List.nil_append]))
        refine Wp.loop (fun (q : Nat × Nat × Kind × Nat × Kind) => { t := [(6, .osl 3 (dfL r s l q.1).length 0 (dfL r s l q.1).length), (8, .ref (kC r f s 0) 0), (56, .lst 3 TA), (57, .int l.length), (58, .int q.1)], m := [⟨1, .row 8 []⟩, ⟨1, .row 3 []⟩, ⟨v, kd⟩, ⟨(dfL r s l q.1).length, .row 1 ((dfL r s l q.1).map AV.int)⟩, ⟨q.2.1, q.2.2.1⟩, ⟨q.2.2.2.1, q.2.2.2.2⟩], n := 90 })
          (fun q => q.1 ≤ l.length) (fun q => l.length - q.1) (0, 0, .row 1 [], 0, .row 1 []) ?_ ?_ ?_
        · (refine Le.of ?_ ?_ rfl rfl <;> (try simp only [push_cast, seval, hTAl, hok]) <;> (try (with_reducible rfl)))
          all_goals (first | exact ⟨rfl, rfl⟩ | rfl)
        · exact Nat.zero_le _
        · rintro ⟨k, v4, k4, v5, k5⟩ hk1
          simp only at hk1
          (refine x_go (zc @hTAl @hok) ?_)
          (apply Wp.cond; (exact x_ev (zc @hTAl @hok)))
          · intro hk
            have hk : k < l.length := by simpa using hk
            have htg := hgd k hk
            have hxk := hx _ (memPh hk)
            have hst := dfL_succ r s hk
            have hLn := dfL_len r s l k
            have hdf : dfB r s (l.getD k ph0) = (!decide ((l.getD k ph0).ts = (phO r s (l.getD k ph0).at_).ts) || !decide ((l.getD k ph0).pp = (phO r s (l.getD k ph0).at_).pp)) := rfl
            obtain ⟨x, hxx⟩ : ∃ x, l.getD k ph0 = x := ⟨_, rfl⟩
            simp only [hxx] at htg hxk hst hdf
            have c2 := c1 x.at_
            obtain ⟨o, ho⟩ : ∃ o, phO r s x.at_ = o := ⟨_, rfl⟩
            simp only [ho] at c2 hdf
            have c3 := equal_pure x.ts o.ts hxk.1
            have c4 := equal_pure x.pp o.pp hxk.2
            generalize dfL r s l k = L at *
            have hLt : L.take L.length = L := List.take_length
            unfold phA at htg c2
            (refine x_gs (zc @hTAl (zc @hok (zc @htg (zc @lenMp @hLt)))) ?_)
            (apply Run.alcAt 4; (exact x_ev (zc @hTAl (zc @hok (zc @htg (zc @lenMp @hLt))))); ((try simp only [push_cast, seval, hTAl, hok, htg, List.length_map, hLt]) <;> exact sT); exact rfl; (try simp only [push_cast, seval, hTAl, hok, htg, List.length_map, hLt]))
            (refine x_go (zc @hTAl (zc @hok (zc @htg (zc @lenMp @hLt)))) ?_)
            (apply Run.pureFP; (exact x_ev (zc @hTAl (zc @hok (zc @htg (zc @lenMp @hLt))))); (exact (Enters.of Tryz.func68 rfl rfl)); (exact c2); (exact x_al (zc @hTAl (zc @hok (zc @htg (zc @lenMp @hLt))))); (try dsimp only [putA, optG]))
            (refine x_gs (zc @hTAl (zc @hok (zc @htg (zc @lenMp @hLt)))) ?_)
            (apply Run.alcAt 5; (exact x_ev (zc @hTAl (zc @hok (zc @htg (zc @lenMp @hLt))))); ((try simp only [push_cast, seval, hTAl, hok, htg, List.length_map, hLt]) <;> exact sT); exact rfl; (try simp only [push_cast, seval, hTAl, hok, htg, List.length_map, hLt]))
            (refine x_go (zc @hTAl (zc @hok (zc @htg (zc @lenMp @hLt)))) ?_)
            (apply Run.pureP; (exact x_ev (zc @hTAl (zc @hok (zc @htg (zc @lenMp @hLt))))); (exact (Enters.of Tryz.func73 rfl rfl)); (exact c3); (exact x_al (zc @hTAl (zc @hok (zc @htg (zc @lenMp @hLt))))); (try dsimp only [putA, optG]))
            (refine x_go (zc @hTAl (zc @hok (zc @htg (zc @lenMp @hLt)))) ?_)
            (apply Run.pureP; (exact x_ev (zc @hTAl (zc @hok (zc @htg (zc @lenMp @hLt))))); (exact (Enters.of Tryz.func73 rfl rfl)); (exact c4); (exact x_al (zc @hTAl (zc @hok (zc @htg (zc @lenMp @hLt))))); (try dsimp only [putA, optG]))
            (refine x_go (zc @hTAl (zc @hok (zc @htg (zc @lenMp @hLt)))) ?_)
            (apply Wp.cond; (exact x_ev (zc @hTAl (zc @hok (zc @htg (zc @lenMp @hLt))))))
            · intro hq
              rw [if_pos (by rw [hdf]; exact hq)] at hst
              (refine x_go (zc @hTAl (zc @hok (zc @htg (zc @lenMp @hLt)))) ?_)
              refine ⟨(k + 1, v4 + 1, .row 3 [.agg [.int x.at_, .ints x.ts, .ints x.pp]], v5 + 1, .row 3 [.agg [.int o.at_, .ints o.ts, .ints o.pp]]), ?_, by simp only; omega, by simp only; omega⟩
              simp only [hst, List.length_append, List.length_singleton]
              (refine Le.of ?_ ?_ rfl rfl <;> (try simp only [push_cast, seval, hTAl, hok, htg, List.length_map, hLt]) <;> (try (with_reducible rfl)))
            · intro hq
              rw [if_neg (by rw [hdf, hq]; simp)] at hst
              (refine x_go (zc @hTAl (zc @hok (zc @htg (zc @lenMp @hLt)))) ?_)
              refine ⟨(k + 1, v4 + 1, .row 3 [.agg [.int x.at_, .ints x.ts, .ints x.pp]], v5 + 1, .row 3 [.agg [.int o.at_, .ints o.ts, .ints o.pp]]), ?_, by simp only; omega, by simp only; omega⟩
              simp only [hst]
              (refine Le.of ?_ ?_ rfl rfl <;> (try simp only [push_cast, seval, hTAl, hok, htg, List.length_map, hLt]) <;> (try (with_reducible rfl)))
          · intro hk
            obtain rfl : k = l.length := by
              have : ¬ k < l.length := by simpa using hk
              omega
            have hLn := dfL_len r s l l.length
            generalize dfL r s l l.length = L at *
            have hsl := srtI_len L
            have hcl := cmpI_len (srtI L)
            (refine x_go (zc @hTAl (zc @hok @lenMp)) ?_)
            (apply Run.spec (he := Enters.of Tryz.func74 rfl rfl); exact rfl; (simp only [push_cast, seval, hTAl, hok, List.length_map] <;> first | exact rfl | assumption); (exact x_ev (zc @hTAl (zc @hok @lenMp))))
            · exact sort_spec (id := 3) rfl (by omega)
            · rintro _ _ ⟨rfl, rfl⟩
              dsimp only [S.put, optG]
              generalize srtI L = M at *
              have c9 := compact_spec (id := 3) (ver := L.length) (l := M) (m := [⟨1, .row 8 []⟩, ⟨1, .row 3 []⟩, ⟨v, kd⟩, ⟨L.length, .row 1 (M.map AV.int)⟩, ⟨v4, k4⟩, ⟨v5, k5⟩]) rfl (by omega)
              rw [hsl] at c9
              generalize cmpI M = C at *
              have htk : ((C ++ List.replicate (L.length - C.length) 0).map AV.int).take C.length = C.map AV.int := by
                rw [List.map_append, List.take_append_of_le_length (by simp), List.take_of_length_le (by simp)]
              generalize hZ : (C ++ List.replicate (L.length - C.length) 0).map AV.int = Z at *
              have hZl : Z.length = L.length := by rw [← hZ, List.length_map, List.length_append, List.length_replicate]; omega
              (refine x_go (zc @hTAl (zc @hok (zc @htk @hZl))) ?_)
              (apply Run.spec (he := Enters.of Tryz.func75 rfl rfl); exact rfl; (simp only [push_cast, seval, hTAl, hok, htk, hZl] <;> first | exact rfl | assumption); (exact x_ev (zc @hTAl (zc @hok (zc @htk @hZl)))))
              · exact c9
              · rintro _ _ ⟨rfl, rfl⟩
                dsimp only [S.put, optG]
                (refine x_go (zc @hTAl (zc @hok (zc @htk @hZl))) ?_)
                (apply Wp.freeze 6; (exact x_ev (zc @hTAl (zc @hok (zc @htk @hZl)))); (exact x_ev (zc @hTAl (zc @hok (zc @htk @hZl)))); (focus (try simp only [push_cast, seval, hTAl, hok, htk, hZl]); (try (exact sT))); (focus (exact sT)))
                (first | exact x_ret (zc @hTAl (zc @hok (zc @htk @hZl))) | refine x_retZ (zc @hTAl (zc @hok (zc @htk @hZl))) ?_)
  · have c0 := begin_err hz hs h1
    have e2 : decide (begE r s = 0) = false := decide_eq_false h1
    rw [if_neg h1]
    generalize begE r s = e at *
    generalize l.map phA = TA at *
    unfold rmA rmC at *
    unfold stA at *
    (refine Spec.bd 0 Tryz.func38 Tryz.results38 Tryz.ntmps38 ?_; simp only [entry, zipArgs, Nat.reduceAdd])
    ((refine x_pre (zc @hTAl (zc @hok (zc @e2 @Bool.not_false))) ?_); (iterate 4 (refine x_nr (zc @hTAl (zc @hok (zc @e2 @Bool.not_false))) ?_)); (refine x_nil (zc @hTAl (zc @hok (zc @e2 @Bool.not_false))) ?_))
    (refine x_fzP (zc @hTAl (zc @hok (zc @e2 @Bool.not_false))) (slq 3) ?_)
    (refine x_fzP (zc @hTAl (zc @hok (zc @e2 @Bool.not_false))) (slq 4) ?_)
    (refine x_go (zc @hTAl (zc @hok (zc @e2 @Bool.not_false))) ?_)
    (apply Run.pureFP; (exact x_ev (zc @hTAl (zc @hok (zc @e2 @Bool.not_false)))); (exact (Enters.of Tryz.func46 rfl rfl)); (exact c0); (exact x_al (zc @hTAl (zc @hok (zc @e2 @Bool.not_false)))); (try dsimp only [putA, optG]))
    (refine x_gg (zc @hTAl (zc @hok (zc @e2 @Bool.not_false))) ?_)
    (first | exact x_ret (zc @hTAl (zc @hok (zc @e2 @Bool.not_false))) | refine x_retZ (zc @hTAl (zc @hok (zc @e2 @Bool.not_false))) ?_)
end Go.Proofs.Tryz
set_option maxHeartbeats 16000000
namespace Go.Proofs.Tryz
open Go.Vg

/-! the document's Compare -/
end Go.Proofs.Tryz
set_option maxHeartbeats 16000000
namespace Go.Proofs.Tryz
open Go.Vg

end Go.Proofs.Tryz
set_option maxHeartbeats 32000000
namespace Go.Proofs.Tryz
open Go.Vg

/-! the photographs of all places -/
def aPh (r : Rm) (s : St) (k : Nat) : List Ph := (List.range k).map fun p : Nat => phO r s (p : Int)
theorem aPh_succ (r : Rm) (s : St) (k : Nat) : aPh r s (k + 1) = aPh r s k ++ [phO r s (k : Int)] := by simp [aPh, List.range_succ]
theorem aPh_len (r : Rm) (s : St) (k : Nat) : (aPh r s k).length = k := by simp [aPh]
theorem aPh_mem {r : Rm} {s : St} {k : Nat} {x : Ph} (h : x ∈ aPh r s k) : ∃ p : Nat, p < k ∧ x = phO r s (p : Int) := by
  obtain ⟨p, hp, rfl⟩ := List.mem_map.1 h
  exact ⟨p, List.mem_range.1 hp, rfl⟩
theorem aPh_cp (r : Rm) (s : St) : (aPh r s r.ps.length).all (cpB r) = true := by
  rw [List.all_eq_true]
  intro x hx
  obtain ⟨p, hp, rfl⟩ := aPh_mem hx
  unfold cpB wi phO
  simp only [phT_len, phP_len, decide_true, Bool.and_true, Bool.and_eq_true, decide_eq_true_eq]
  omega
theorem phO_same {r : Rm} {s t : St} (h1 : s.ts = t.ts) (h2 : s.pp = t.pp) (p : Int) : phO r s p = phO r t p := by
  unfold phO phT phP
  rw [h1, h2]
theorem df_same {r : Rm} {s t : St} (h1 : s.ts = t.ts) (h2 : s.pp = t.pp) (n k : Nat) : dfL r t (aPh r s n) k = [] := by
  unfold dfL
  rw [List.map_eq_nil_iff, List.filter_eq_nil_iff]
  intro x hx
  obtain ⟨p, hp, rfl⟩ := aPh_mem (List.mem_of_mem_take hx)
  have e : (phO r s (p : Int)).at_ = (p : Int) := rfl
  unfold dfB
  rw [e, phO_same h1 h2]
  simp
theorem cmp_nil : cmpI (srtI []) = [] := List.eq_nil_of_length_eq_zero (by have h1 := cmpI_len (srtI []); have h2 := srtI_len []; simp only [List.length_nil] at h2; omega)
end Go.Proofs.Tryz
set_option maxHeartbeats 32000000
namespace Go.Proofs.Tryz
open Go.Vg

/-! behind a checklist -/
theorem unL_self (a : List Int) : unL a a = [] := (unL_nil rfl).2 rfl
theorem begE_of {r : Rm} {s : St} (hb : bgE r = 0) (hs : SV r s) : begE r s = 0 := by
  unfold begE csE
  rw [orE_ok hb, orE_ok (bg_ok hb).1, if_pos (csB_SV.2 hs)]
theorem bk_ok (r : Rm) (s : St) (l : List Tk) (hm2 : l.length ≤ 250) (hl : Ln s) (hfa : farB r = false) (haw : awB s = false) (hb : bgE r = 0) (pl : List Int) (hy : SV r ⟨(bgS r).ts, (bgS r).pp, pl⟩)
    (hp : plA r s l = .tup [stA ⟨(bgS r).ts, (bgS r).pp, pl⟩, .int 0]) (hc : ckA r s l = .tup [.int 0, .int 0]) : Pure Tryz.prog 11 [rmA r, stA s, .lst 3 (l.map tkA)] (.bool true) := by
  have w1 := works_pure
  have f1 := Far_pure r
  have a1 := Away_pure hl
  rw [hfa] at f1
  rw [haw] at a1
  have hTAl : (l.map tkA).length = l.length := List.length_map _
  have hok := okL_tk 0 l
  have e1 : decide ((250 : Int) < (l.length : Int)) = false := decide_eq_false (by omega)
  have hz := farB_Sz hfa
  have hs := awB_Zs haw
  have hv := chE_RV (bg_ok hb).1
  have hyz := SV.zs hz hv hy
  have hfz := SV.zs hz hv (bg_SV hb)
  have hbf : begE r (bgS r) = 0 := begE_of hb (bg_SV hb)
  have hby := begE_of hb hy
  have z1 := hz.ps
  have z2 := hz.ts
  have g1 := CopyState_pure s hs
  have g2 := CopyState_pure ⟨(bgS r).ts, (bgS r).pp, pl⟩ hyz
  have g3 := CopyState_pure (bgS r) hfz
  have g4 := Copy_pure hz
  have g5 := copyTasks_pure l (by omega)
  have g6 := Play_pure hz hs l (by omega)
  have g7 := Check_pure hz hs l (by omega)
  rw [hp] at g6
  rw [hc] at g7
  have g8 := Wrong_pure hz hyz
  unfold wrA at g8
  rw [if_pos hby, unL_self, unL_self] at g8
  have g9 := Reset_pure hz hyz
  rw [hby, show rsB (bgS r) ⟨(bgS r).ts, (bgS r).pp, pl⟩ = true by unfold rsB; simp] at g9
  have ga := rBegin_pure hz
  unfold bgA at ga
  rw [if_pos hb, hb] at ga
  have gb := sameInts_pure (bgS r).ts (bgS r).ts (by have := hfz.ts; omega)
  have gc := sameInts_pure (bgS r).pp (bgS r).pp (by have := hfz.pp; omega)
  simp only [decide_true, Bool.and_true] at gb gc g9
  have gd : ∀ p : Nat, p < r.ps.length → Pure Tryz.prog 29 [rmA r, stA (bgS r), .int p] (.tup [phA (phO r (bgS r) (p : Int)), .int 0]) := fun p hp => by
    have := Photo_pure hz hfz (p : Int)
    unfold poA at this
    rwa [if_pos hbf, if_pos (by unfold wi; simp; omega)] at this
  have ge := Compare_pure hz hyz (aPh r (bgS r) r.ps.length) (by rw [aPh_len]; omega) (fun x hx => by obtain ⟨p, hp, rfl⟩ := aPh_mem hx; unfold phO; simp only [phT_len, phP_len]; have := hz.pp; omega)
  unfold coA at ge
  rw [aPh_cp, if_pos rfl, if_pos hby, df_same (s := bgS r) (t := ⟨(bgS r).ts, (bgS r).pp, pl⟩) rfl rfl, cmp_nil] at ge
  clear hbf hby hv hyz hfz hp hc hb hy
  have hst1 : ∀ k, (aPh r (bgS r) (k + 1)).map phA = (aPh r (bgS r) k).map phA ++ [phA (phO r (bgS r) (k : Int))] := fun k => by rw [aPh_succ, List.map_append]; rfl
  have hLl1 : ∀ k, ((aPh r (bgS r) k).map phA).length = k := fun k => by rw [List.length_map, aPh_len]
  have hok1 := okL_ph 0 (aPh r (bgS r) r.ps.length)
  have ha0 : aPh r (bgS r) 0 = [] := rfl
  generalize aPh r (bgS r) = AP at *
  generalize phO r (bgS r) = PO at *
  generalize bgS r = f at *
  generalize l.map tkA = TA at *
  unfold rmA rmC at *
  unfold stA at *
  (refine Spec.bd 0 Tryz.func11 Tryz.results11 Tryz.ntmps11 ?_; simp only [entry, zipArgs, Nat.reduceAdd])
  ((refine x_pre (zc @hTAl (zc @hok @e1)) ?_); (iterate 3 (refine x_nr (zc @hTAl (zc @hok @e1)) ?_)); (refine x_nil (zc @hTAl (zc @hok @e1)) ?_))
  (refine x_fzP (zc @hTAl (zc @hok @e1)) (slq 3) ?_)
  (refine x_fzP (zc @hTAl (zc @hok @e1)) (slq 4) ?_)
  (refine x_go (zc @hTAl (zc @hok @e1)) ?_)
  (apply Run.pureFP; (exact x_ev (zc @hTAl (zc @hok @e1))); (exact (Enters.of Tryz.func20 rfl rfl)); (exact f1); (exact x_al (zc @hTAl (zc @hok @e1))); (try dsimp only [putA, optG]))
  (refine x_go (zc @hTAl (zc @hok @e1)) ?_)
  (apply Run.pureFP; (exact x_ev (zc @hTAl (zc @hok @e1))); (exact (Enters.of Tryz.func14 rfl rfl)); (exact a1); (exact x_al (zc @hTAl (zc @hok @e1))); (try dsimp only [putA, optG]))
  (refine x_gg (zc @hTAl (zc @hok @e1)) ?_)
  (apply Run.pureFP; (exact x_ev (zc @hTAl (zc @hok @e1))); (exact (Enters.of Tryz.func17 rfl rfl)); (exact g4); (exact x_al (zc @hTAl (zc @hok @e1))); (try dsimp only [putA, optG]))
  (refine x_gg (zc @hTAl (zc @hok @e1)) ?_)
  (apply Wp.runG 1 mixed; (dsimp only [List.map] <;> exact rfl); exact rfl; kernel_rfl; ((try dsimp only [List.replicate]); ((refine x_gp (zc @hTAl (zc @hok @e1)) ?_); (apply AbsG.callF; exact rfl; (exact x_ev (zc @hTAl (zc @hok @e1))); (exact (Enters.of Tryz.func18 rfl rfl)); (exact g1); (exact x_al (zc @hTAl (zc @hok @e1))); (try dsimp only [upd, optG])); (refine x_gp (zc @hTAl (zc @hok @e1)) ?_); (apply AbsG.callF; exact rfl; (exact x_ev (zc @hTAl (zc @hok @e1))); (exact (Enters.of Tryz.func33 rfl rfl)); (exact g5); (exact x_al (zc @hTAl (zc @hok @e1))); (try dsimp only [upd, optG])); (refine x_gp (zc @hTAl (zc @hok @e1)) ?_); (apply AbsG.callF; exact rfl; (exact x_ev (zc @hTAl (zc @hok @e1))); (exact (Enters.of Tryz.func35 rfl rfl)); (exact g6); (exact x_al (zc @hTAl (zc @hok @e1))); (try dsimp only [upd, optG])); (refine x_gp (zc @hTAl (zc @hok @e1)) ?_); (apply AbsG.new 0; exact rfl; (exact x_ev (zc @hTAl (zc @hok @e1))); ((try simp only [push_cast, seval, hTAl, hok, e1]) <;> exact sT); exact rfl; dsimp only [upd, alcV, List.set, List.length_cons, List.length_nil, Nat.reduceAdd]); (apply AbsG.eff 0; exact rfl; exact rfl; (exact x_ev (zc @hTAl (zc @hok @e1))); ((try simp only [push_cast, seval, hTAl, hok, e1]) <;> exact sT); dsimp only [upd, List.set, List.length_cons, List.length_nil, Nat.reduceAdd]); (refine x_gp (zc @hTAl (zc @hok @e1)) ?_)); exact AbsG.nil); kernel_rfl; (try dsimp only [List.cons_append, List.nil_append]))
  (refine x_gg (zc @hTAl (zc @hok @e1)) ?_)
  (refine Wp.rnD 11 ?_; apply exAb; (((refine x_abn (zc @hTAl (zc @hok @e1)) ?_); (apply Abn.pureFP; (exact x_ev (zc @hTAl (zc @hok @e1))); (exact (Enters.of Tryz.func18 rfl rfl)); (exact g1); (exact x_al (zc @hTAl (zc @hok @e1))); (try dsimp only [putA, optG])); (refine x_abn (zc @hTAl (zc @hok @e1)) ?_); (apply Abn.pureFP; (exact x_ev (zc @hTAl (zc @hok @e1))); (exact (Enters.of Tryz.func33 rfl rfl)); (exact g5); (exact x_al (zc @hTAl (zc @hok @e1))); (try dsimp only [putA, optG])); (refine x_abn (zc @hTAl (zc @hok @e1)) ?_); (apply Abn.pureFP; (exact x_ev (zc @hTAl (zc @hok @e1))); (exact (Enters.of Tryz.func32 rfl rfl)); (exact g7); (exact x_al (zc @hTAl (zc @hok @e1))); (try dsimp only [putA, optG])); (refine x_abn (zc @hTAl (zc @hok @e1)) ?_)); exact Abn.nil))
  (refine x_gg (zc @hTAl (zc @hok @e1)) ?_)
  (refine Wp.rnD 11 ?_; apply exAb; (((refine x_abn (zc @hTAl (zc @hok @e1)) ?_); (apply Abn.pureFP; (exact x_ev (zc @hTAl (zc @hok @e1))); (exact (Enters.of Tryz.func18 rfl rfl)); (exact g2); (exact x_al (zc @hTAl (zc @hok @e1))); (try dsimp only [putA, optG])); (refine x_abn (zc @hTAl (zc @hok @e1)) ?_); (apply Abn.pureFP; (exact x_ev (zc @hTAl (zc @hok @e1))); (exact (Enters.of Tryz.func27 rfl rfl)); (exact g8); (exact x_al (zc @hTAl (zc @hok @e1))); (try dsimp only [putA, optG])); (refine x_abn (zc @hTAl (zc @hok @e1)) ?_)); exact Abn.nil))
  (refine x_gg (zc @hTAl (zc @hok @e1)) ?_)
  (refine Wp.rnD 9 ?_; apply exAb; (((refine x_abn (zc @hTAl (zc @hok @e1)) ?_); (apply Abn.pureFP; (exact x_ev (zc @hTAl (zc @hok @e1))); (exact (Enters.of Tryz.func18 rfl rfl)); (exact g2); (exact x_al (zc @hTAl (zc @hok @e1))); (try dsimp only [putA, optG])); (refine x_abn (zc @hTAl (zc @hok @e1)) ?_); (apply Abn.pureFP; (exact x_ev (zc @hTAl (zc @hok @e1))); (exact (Enters.of Tryz.func23 rfl rfl)); (exact g9); (exact x_al (zc @hTAl (zc @hok @e1))); (try dsimp only [putA, optG])); (refine x_abn (zc @hTAl (zc @hok @e1)) ?_)); exact Abn.nil))
  (refine x_gg (zc @hTAl (zc @hok @e1)) ?_)
  (apply Run.pureFP; (exact x_ev (zc @hTAl (zc @hok @e1))); (exact (Enters.of Tryz.func41 rfl rfl)); (exact ga); (exact x_al (zc @hTAl (zc @hok @e1))); (try dsimp only [putA, optG]))
  (refine x_gg (zc @hTAl (zc @hok @e1)) ?_)
  (apply Run.pureP; (exact x_ev (zc @hTAl (zc @hok @e1))); (exact (Enters.of Tryz.func25 rfl rfl)); (exact gb); (exact x_al (zc @hTAl (zc @hok @e1))); (try dsimp only [putA, optG]))
  (refine x_gg (zc @hTAl (zc @hok @e1)) ?_)
  (apply Run.pureP; (exact x_ev (zc @hTAl (zc @hok @e1))); (exact (Enters.of Tryz.func25 rfl rfl)); (exact gc); (exact x_al (zc @hTAl (zc @hok @e1))); (try dsimp only [putA, optG]))
  (refine x_gg (zc @hTAl (zc @hok @e1)) ?_)
  apply Wp.adopt 19 3; (exact x_ev (zc @hTAl (zc @hok @e1)))
  (refine Wp.vacs 1 ?_; (try simp only [List.replicate_succ, List.replicate_zero, List.cons_append, List.nil_append]))
  refine Wp.loop (fun (q : Nat × Nat × Kind) => { t := [(3, .ref [.strs r.ps, .lst 4 (r.ts.map thA), .lst 3 (r.pp.map ppA), .lst 3 (r.wy.map wyA), .lst 8 (r.ac.map acA), .lst 3 (r.au.map auA), .int r.n, .lst 3 (r.goal.map ltA)] 0), (7, .optr 2 0 0 0), (8, .optr 3 1 0 0), (17, .optr 4 0 0 0), (19, .osl 5 q.1 0 q.1), (20, .int q.1)], m := [⟨1, .row 8 []⟩, ⟨1, .row 3 []⟩, ⟨0, .row 8 [.agg [.strs r.ps, .lst 4 (r.ts.map thA), .lst 3 (r.pp.map ppA), .lst 3 (r.wy.map wyA), .lst 8 (r.ac.map acA), .lst 3 (r.au.map auA), .int r.n, .lst 3 (r.goal.map ltA)]]⟩, ⟨1, .row 3 [.agg [.ints f.ts, .ints f.pp, .ints pl]]⟩, ⟨0, .row 3 [.agg [.ints f.ts, .ints f.pp, .ints f.pl]]⟩, ⟨q.1, .row 3 ((AP q.1).map phA)⟩, ⟨q.2.1, q.2.2⟩], n := 160 })
    (fun q => q.1 ≤ r.ps.length) (fun q => r.ps.length - q.1) (0, 0, .row 1 []) ?_ ?_ ?_
  · simp only [ha0]
    (refine Le.of ?_ ?_ rfl rfl <;> (try simp only [push_cast, seval, hTAl, hok, e1]) <;> (try (with_reducible rfl)))
    all_goals (first | exact ⟨rfl, rfl⟩ | rfl)
  · exact Nat.zero_le _
  · clear g1 g4 g5 g6 g7 g8 g9 ga gb gc f1 a1
    rintro ⟨k, v, kd⟩ hk1
    simp only at hk1
    (refine x_go (zc @hTAl (zc @hok @e1)) ?_)
    (apply Wp.cond; (exact x_ev (zc @hTAl (zc @hok @e1))))
    · intro hk
      have hk : k < r.ps.length := by simpa using hk
      have hst := hst1 k
      have hLl := hLl1 k
      have c4 := gd k hk
      generalize (AP k).map phA = L at *
      have hLt : L.take k = L := List.take_of_length_le (by omega)
      generalize PO (k : Int) = o at *
      have hst : (AP (k + 1)).map phA = L ++ [.agg [.int o.at_, .ints o.ts, .ints o.pp]] := hst
      unfold phA at c4
      (refine x_go (zc @hLl @hLt) ?_)
      (apply Wp.runGS 6 mixed; (dsimp only [List.map] <;> exact rfl); exact rfl; kernel_rfl; (dsimp only [List.take] <;> exact rfl); (dsimp only [List.drop] <;> exact rfl); (((refine x_gp (zc @hLl @hLt) ?_); (apply AbsG.callF; exact rfl; (exact x_ev (zc @hLl @hLt)); (exact (Enters.of Tryz.func18 rfl rfl)); (exact g3); (exact x_al (zc @hLl @hLt)); (try dsimp only [upd, optG])); (refine x_gp (zc @hLl @hLt) ?_); (apply AbsG.callF; exact rfl; (exact x_ev (zc @hLl @hLt)); (exact (Enters.of Tryz.func29 rfl rfl)); (exact c4); (exact x_al (zc @hLl @hLt)); (try dsimp only [upd, optG])); (refine x_gp (zc @hLl @hLt) ?_); (apply AbsG.new 0; exact rfl; (exact x_ev (zc @hLl @hLt)); ((try simp only [push_cast, seval, hLl, hLt]) <;> exact sT); exact rfl; dsimp only [upd, alcV, List.set, List.length_cons, List.length_nil, Nat.reduceAdd]); (apply AbsG.eff 0; exact rfl; exact rfl; (exact x_ev (zc @hLl @hLt)); ((try simp only [push_cast, seval, hLl, hLt]) <;> exact sT); dsimp only [upd, List.set, List.length_cons, List.length_nil, Nat.reduceAdd]); (refine x_gp (zc @hLl @hLt) ?_)); exact AbsG.nil); kernel_rfl; (try dsimp only [List.cons_append, List.nil_append]))
      (refine x_gg (zc @hLl @hLt) ?_)
      refine ⟨(k + 1, v + 1, .row 3 [.agg [.int o.at_, .ints o.ts, .ints o.pp]]), ?_, by simp only; omega, by simp only; omega⟩
      simp only [hst]
      (refine Le.of ?_ ?_ rfl rfl <;> (try simp only [push_cast, seval, hLl, hLt]) <;> (try (with_reducible rfl)))
    · intro hk
      obtain rfl : k = r.ps.length := by
        have : ¬ k < r.ps.length := by simpa using hk
        omega
      have hLl := hLl1 r.ps.length
      generalize (AP r.ps.length).map phA = L at *
      have hLt : L.take r.ps.length = L := List.take_of_length_le (by omega)
      (refine x_mv (zc @hLt (zc @hLl @hok1)) ?_)
      (apply Wp.freeze 19; (exact x_ev (zc @hLt (zc @hLl @hok1))); (exact x_ev (zc @hLt (zc @hLl @hok1))); (focus (try simp only [push_cast, seval, hLt, hLl, hok1]); (try (exact sT))); (focus (exact sT)))
      (refine x_go (zc @hLt (zc @hLl @hok1)) ?_)
      (refine Wp.rnD 10 ?_; apply exAb; (((refine x_abn (zc @hLt (zc @hLl @hok1)) ?_); (apply Abn.pureFP; (exact x_ev (zc @hLt (zc @hLl @hok1))); (exact (Enters.of Tryz.func18 rfl rfl)); (exact g2); (exact x_al (zc @hLt (zc @hLl @hok1))); (try dsimp only [putA, optG])); (refine x_abn (zc @hLt (zc @hLl @hok1)) ?_); (apply Abn.pureFP; (exact x_ev (zc @hLt (zc @hLl @hok1))); (exact (Enters.of Tryz.func38 rfl rfl)); (exact ge); (exact x_al (zc @hLt (zc @hLl @hok1))); (try dsimp only [putA, optG])); (refine x_abn (zc @hLt (zc @hLl @hok1)) ?_)); exact Abn.nil))
      (refine x_gg (zc @hLt (zc @hLl @hok1)) ?_)
      (apply Run.pureP; (exact x_ev (zc @hLt (zc @hLl @hok1))); (exact (Enters.of Tryz.func15 rfl rfl)); (exact w1); (exact x_al (zc @hLt (zc @hLl @hok1))); (try dsimp only [putA, optG]))
      (refine x_gg (zc @hLt (zc @hLl @hok1)) ?_)
      (first | exact x_ret (zc @hLt (zc @hLl @hok1)) | refine x_retZ (zc @hLt (zc @hLl @hok1)) ?_)
theorem bk_err (r : Rm) (s : St) (l : List Tk) (hm2 : l.length ≤ 250) (hl : Ln s) (hfa : farB r = false) (haw : awB s = false) (y : St) (u e : Int) (he : e ≠ 0)
    (hp : plA r s l = .tup [stN, .int e]) (hc : ckA r s l = .tup [.int u, .int e]) : Pure Tryz.prog 11 [rmA r, stA s, .lst 3 (l.map tkA)] (.bool true) := by
  have w1 := works_pure
  have f1 := Far_pure r
  have a1 := Away_pure hl
  rw [hfa] at f1
  rw [haw] at a1
  have hTAl : (l.map tkA).length = l.length := List.length_map _
  have hok := okL_tk 0 l
  have e1 : decide ((250 : Int) < (l.length : Int)) = false := decide_eq_false (by omega)
  have e2 : decide (e = 0) = false := decide_eq_false he
  have hz := farB_Sz hfa
  have hs := awB_Zs haw
  have g1 := CopyState_pure s hs
  have g4 := Copy_pure hz
  have g5 := copyTasks_pure l (by omega)
  have g6 := Play_pure hz hs l (by omega)
  have g7 := Check_pure hz hs l (by omega)
  rw [hp] at g6
  rw [hc] at g7
  clear hp hc
  generalize l.map tkA = TA at *
  unfold rmA rmC at *
  unfold stA at *
  (refine Spec.bd 0 Tryz.func11 Tryz.results11 Tryz.ntmps11 ?_; simp only [entry, zipArgs, Nat.reduceAdd])
  ((refine x_pre (zc @hTAl (zc @hok (zc @e1 (zc @e2 (zc @decide_true (zc @Bool.not_true @Bool.not_false)))))) ?_); (iterate 3 (refine x_nr (zc @hTAl (zc @hok (zc @e1 (zc @e2 (zc @decide_true (zc @Bool.not_true @Bool.not_false)))))) ?_)); (refine x_nil (zc @hTAl (zc @hok (zc @e1 (zc @e2 (zc @decide_true (zc @Bool.not_true @Bool.not_false)))))) ?_))
  (refine x_fzP (zc @hTAl (zc @hok (zc @e1 (zc @e2 (zc @decide_true (zc @Bool.not_true @Bool.not_false)))))) (slq 3) ?_)
  (refine x_fzP (zc @hTAl (zc @hok (zc @e1 (zc @e2 (zc @decide_true (zc @Bool.not_true @Bool.not_false)))))) (slq 4) ?_)
  (refine x_go (zc @hTAl (zc @hok (zc @e1 (zc @e2 (zc @decide_true (zc @Bool.not_true @Bool.not_false)))))) ?_)
  (apply Run.pureFP; (exact x_ev (zc @hTAl (zc @hok (zc @e1 (zc @e2 (zc @decide_true (zc @Bool.not_true @Bool.not_false))))))); (exact (Enters.of Tryz.func20 rfl rfl)); (exact f1); (exact x_al (zc @hTAl (zc @hok (zc @e1 (zc @e2 (zc @decide_true (zc @Bool.not_true @Bool.not_false))))))); (try dsimp only [putA, optG]))
  (refine x_go (zc @hTAl (zc @hok (zc @e1 (zc @e2 (zc @decide_true (zc @Bool.not_true @Bool.not_false)))))) ?_)
  (apply Run.pureFP; (exact x_ev (zc @hTAl (zc @hok (zc @e1 (zc @e2 (zc @decide_true (zc @Bool.not_true @Bool.not_false))))))); (exact (Enters.of Tryz.func14 rfl rfl)); (exact a1); (exact x_al (zc @hTAl (zc @hok (zc @e1 (zc @e2 (zc @decide_true (zc @Bool.not_true @Bool.not_false))))))); (try dsimp only [putA, optG]))
  (refine x_gg (zc @hTAl (zc @hok (zc @e1 (zc @e2 (zc @decide_true (zc @Bool.not_true @Bool.not_false)))))) ?_)
  (apply Run.pureFP; (exact x_ev (zc @hTAl (zc @hok (zc @e1 (zc @e2 (zc @decide_true (zc @Bool.not_true @Bool.not_false))))))); (exact (Enters.of Tryz.func17 rfl rfl)); (exact g4); (exact x_al (zc @hTAl (zc @hok (zc @e1 (zc @e2 (zc @decide_true (zc @Bool.not_true @Bool.not_false))))))); (try dsimp only [putA, optG]))
  (refine x_gg (zc @hTAl (zc @hok (zc @e1 (zc @e2 (zc @decide_true (zc @Bool.not_true @Bool.not_false)))))) ?_)
  (apply Wp.runG 1 mixed; (dsimp only [List.map] <;> exact rfl); exact rfl; kernel_rfl; ((try dsimp only [List.replicate]); ((refine x_gp (zc @hTAl (zc @hok (zc @e1 (zc @e2 (zc @decide_true (zc @Bool.not_true @Bool.not_false)))))) ?_); (apply AbsG.callF; exact rfl; (exact x_ev (zc @hTAl (zc @hok (zc @e1 (zc @e2 (zc @decide_true (zc @Bool.not_true @Bool.not_false))))))); (exact (Enters.of Tryz.func18 rfl rfl)); (exact g1); (exact x_al (zc @hTAl (zc @hok (zc @e1 (zc @e2 (zc @decide_true (zc @Bool.not_true @Bool.not_false))))))); (try dsimp only [upd, optG])); (refine x_gp (zc @hTAl (zc @hok (zc @e1 (zc @e2 (zc @decide_true (zc @Bool.not_true @Bool.not_false)))))) ?_); (apply AbsG.callF; exact rfl; (exact x_ev (zc @hTAl (zc @hok (zc @e1 (zc @e2 (zc @decide_true (zc @Bool.not_true @Bool.not_false))))))); (exact (Enters.of Tryz.func33 rfl rfl)); (exact g5); (exact x_al (zc @hTAl (zc @hok (zc @e1 (zc @e2 (zc @decide_true (zc @Bool.not_true @Bool.not_false))))))); (try dsimp only [upd, optG])); (refine x_gp (zc @hTAl (zc @hok (zc @e1 (zc @e2 (zc @decide_true (zc @Bool.not_true @Bool.not_false)))))) ?_); (apply AbsG.callF; exact rfl; (exact x_ev (zc @hTAl (zc @hok (zc @e1 (zc @e2 (zc @decide_true (zc @Bool.not_true @Bool.not_false))))))); (exact (Enters.of Tryz.func35 rfl rfl)); (exact g6); (exact x_al (zc @hTAl (zc @hok (zc @e1 (zc @e2 (zc @decide_true (zc @Bool.not_true @Bool.not_false))))))); (try dsimp only [upd, optG])); (refine x_gp (zc @hTAl (zc @hok (zc @e1 (zc @e2 (zc @decide_true (zc @Bool.not_true @Bool.not_false)))))) ?_); (apply AbsG.new 0; exact rfl; (exact x_ev (zc @hTAl (zc @hok (zc @e1 (zc @e2 (zc @decide_true (zc @Bool.not_true @Bool.not_false))))))); ((try simp only [push_cast, seval, hTAl, hok, e1, e2, decide_true, Bool.not_true, Bool.not_false]) <;> exact sT); exact rfl; dsimp only [upd, alcV, List.set, List.length_cons, List.length_nil, Nat.reduceAdd]); (apply AbsG.eff 0; exact rfl; exact rfl; (exact x_ev (zc @hTAl (zc @hok (zc @e1 (zc @e2 (zc @decide_true (zc @Bool.not_true @Bool.not_false))))))); ((try simp only [push_cast, seval, hTAl, hok, e1, e2, decide_true, Bool.not_true, Bool.not_false]) <;> exact sT); dsimp only [upd, List.set, List.length_cons, List.length_nil, Nat.reduceAdd]); (refine x_gp (zc @hTAl (zc @hok (zc @e1 (zc @e2 (zc @decide_true (zc @Bool.not_true @Bool.not_false)))))) ?_)); exact AbsG.nil); kernel_rfl; (try dsimp only [List.cons_append, List.nil_append]))
  (refine x_gg (zc @hTAl (zc @hok (zc @e1 (zc @e2 (zc @decide_true (zc @Bool.not_true @Bool.not_false)))))) ?_)
  (refine Wp.rnD 11 ?_; apply exAb; (((refine x_abn (zc @hTAl (zc @hok (zc @e1 (zc @e2 (zc @decide_true (zc @Bool.not_true @Bool.not_false)))))) ?_); (apply Abn.pureFP; (exact x_ev (zc @hTAl (zc @hok (zc @e1 (zc @e2 (zc @decide_true (zc @Bool.not_true @Bool.not_false))))))); (exact (Enters.of Tryz.func18 rfl rfl)); (exact g1); (exact x_al (zc @hTAl (zc @hok (zc @e1 (zc @e2 (zc @decide_true (zc @Bool.not_true @Bool.not_false))))))); (try dsimp only [putA, optG])); (refine x_abn (zc @hTAl (zc @hok (zc @e1 (zc @e2 (zc @decide_true (zc @Bool.not_true @Bool.not_false)))))) ?_); (apply Abn.pureFP; (exact x_ev (zc @hTAl (zc @hok (zc @e1 (zc @e2 (zc @decide_true (zc @Bool.not_true @Bool.not_false))))))); (exact (Enters.of Tryz.func33 rfl rfl)); (exact g5); (exact x_al (zc @hTAl (zc @hok (zc @e1 (zc @e2 (zc @decide_true (zc @Bool.not_true @Bool.not_false))))))); (try dsimp only [putA, optG])); (refine x_abn (zc @hTAl (zc @hok (zc @e1 (zc @e2 (zc @decide_true (zc @Bool.not_true @Bool.not_false)))))) ?_); (apply Abn.pureFP; (exact x_ev (zc @hTAl (zc @hok (zc @e1 (zc @e2 (zc @decide_true (zc @Bool.not_true @Bool.not_false))))))); (exact (Enters.of Tryz.func32 rfl rfl)); (exact g7); (exact x_al (zc @hTAl (zc @hok (zc @e1 (zc @e2 (zc @decide_true (zc @Bool.not_true @Bool.not_false))))))); (try dsimp only [putA, optG])); (refine x_abn (zc @hTAl (zc @hok (zc @e1 (zc @e2 (zc @decide_true (zc @Bool.not_true @Bool.not_false)))))) ?_)); exact Abn.nil))
  (refine x_gg (zc @hTAl (zc @hok (zc @e1 (zc @e2 (zc @decide_true (zc @Bool.not_true @Bool.not_false)))))) ?_)
  (apply Run.pureP; (exact x_ev (zc @hTAl (zc @hok (zc @e1 (zc @e2 (zc @decide_true (zc @Bool.not_true @Bool.not_false))))))); (exact (Enters.of Tryz.func15 rfl rfl)); (exact w1); (exact x_al (zc @hTAl (zc @hok (zc @e1 (zc @e2 (zc @decide_true (zc @Bool.not_true @Bool.not_false))))))); (try dsimp only [putA, optG]))
  (refine x_gg (zc @hTAl (zc @hok (zc @e1 (zc @e2 (zc @decide_true (zc @Bool.not_true @Bool.not_false)))))) ?_)
  (first | exact x_ret (zc @hTAl (zc @hok (zc @e1 (zc @e2 (zc @decide_true (zc @Bool.not_true @Bool.not_false)))))) | refine x_retZ (zc @hTAl (zc @hok (zc @e1 (zc @e2 (zc @decide_true (zc @Bool.not_true @Bool.not_false)))))) ?_)
/-- the law ResetBack: at every room, state and list of tasks it says yes -/
theorem law_ResetBack (r : Rm) (s : St) (l : List Tk) (hm : l.length ≤ maxLen) : Pure Tryz.prog 11 [rmA r, stA s, .lst 3 (l.map tkA)] (.bool true) := by
  refine Spec.pre (C := Ln s) (fun X w ρ vs hr => by obtain ⟨_, _, _, _, _, _, _, h2, _⟩ := hr; exact st_len h2) fun hl => ?_
  have hm2 : l.length ≤ 9223372036854775807 := by unfold maxLen at hm; omega
  have w1 := works_pure
  have f1 := Far_pure r
  have a1 := Away_pure hl
  have hTAl : (l.map tkA).length = l.length := List.length_map _
  have hok := okL_tk 0 l
  cases hfa : farB r with
  | true =>
    rw [hfa] at f1
    generalize l.map tkA = TA at *
    unfold rmA rmC at *
    unfold stA at *
    (refine Spec.bd 0 Tryz.func11 Tryz.results11 Tryz.ntmps11 ?_; simp only [entry, zipArgs, Nat.reduceAdd])
    (refine x_go (zc @Bool.true_or (zc @hTAl @hok)) ?_)
    (apply Run.pureFP; (exact x_ev (zc @Bool.true_or (zc @hTAl @hok))); (exact (Enters.of Tryz.func20 rfl rfl)); (exact f1); (exact x_al (zc @Bool.true_or (zc @hTAl @hok))); (try dsimp only [putA, optG]))
    (refine x_gg (zc @Bool.true_or (zc @hTAl @hok)) ?_)
    (apply Run.pureP; (exact x_ev (zc @Bool.true_or (zc @hTAl @hok))); (exact (Enters.of Tryz.func15 rfl rfl)); (exact w1); (exact x_al (zc @Bool.true_or (zc @hTAl @hok))); (try dsimp only [putA, optG]))
    (refine x_gg (zc @Bool.true_or (zc @hTAl @hok)) ?_)
    (first | exact x_ret (zc @Bool.true_or (zc @hTAl @hok)) | refine x_retZ (zc @Bool.true_or (zc @hTAl @hok)) ?_)
  | false =>
    rw [hfa] at f1
    cases haw : awB s with
    | true =>
      rw [haw] at a1
      generalize l.map tkA = TA at *
      unfold rmA rmC at *
      unfold stA at *
      (refine Spec.bd 0 Tryz.func11 Tryz.results11 Tryz.ntmps11 ?_; simp only [entry, zipArgs, Nat.reduceAdd])
      (refine x_go (zc @Bool.true_or (zc @hTAl @hok)) ?_)
      (apply Run.pureFP; (exact x_ev (zc @Bool.true_or (zc @hTAl @hok))); (exact (Enters.of Tryz.func20 rfl rfl)); (exact f1); (exact x_al (zc @Bool.true_or (zc @hTAl @hok))); (try dsimp only [putA, optG]))
      (refine x_go (zc @Bool.true_or (zc @hTAl @hok)) ?_)
      (apply Run.pureFP; (exact x_ev (zc @Bool.true_or (zc @hTAl @hok))); (exact (Enters.of Tryz.func14 rfl rfl)); (exact a1); (exact x_al (zc @Bool.true_or (zc @hTAl @hok))); (try dsimp only [putA, optG]))
      (refine x_gg (zc @Bool.true_or (zc @hTAl @hok)) ?_)
      (apply Run.pureP; (exact x_ev (zc @Bool.true_or (zc @hTAl @hok))); (exact (Enters.of Tryz.func15 rfl rfl)); (exact w1); (exact x_al (zc @Bool.true_or (zc @hTAl @hok))); (try dsimp only [putA, optG]))
      (refine x_gg (zc @Bool.true_or (zc @hTAl @hok)) ?_)
      (first | exact x_ret (zc @Bool.true_or (zc @hTAl @hok)) | refine x_retZ (zc @Bool.true_or (zc @hTAl @hok)) ?_)
    | false =>
      rw [haw] at a1
      by_cases hbig : 250 < l.length
      · have e1 : decide ((250 : Int) < (l.length : Int)) = true := decide_eq_true (by omega)
        generalize l.map tkA = TA at *
        unfold rmA rmC at *
        unfold stA at *
        (refine Spec.bd 0 Tryz.func11 Tryz.results11 Tryz.ntmps11 ?_; simp only [entry, zipArgs, Nat.reduceAdd])
        (refine x_go (zc @hTAl (zc @hok @e1)) ?_)
        (apply Run.pureFP; (exact x_ev (zc @hTAl (zc @hok @e1))); (exact (Enters.of Tryz.func20 rfl rfl)); (exact f1); (exact x_al (zc @hTAl (zc @hok @e1))); (try dsimp only [putA, optG]))
        (refine x_go (zc @hTAl (zc @hok @e1)) ?_)
        (apply Run.pureFP; (exact x_ev (zc @hTAl (zc @hok @e1))); (exact (Enters.of Tryz.func14 rfl rfl)); (exact a1); (exact x_al (zc @hTAl (zc @hok @e1))); (try dsimp only [putA, optG]))
        (refine x_gg (zc @hTAl (zc @hok @e1)) ?_)
        (apply Run.pureP; (exact x_ev (zc @hTAl (zc @hok @e1))); (exact (Enters.of Tryz.func15 rfl rfl)); (exact w1); (exact x_al (zc @hTAl (zc @hok @e1))); (try dsimp only [putA, optG]))
        (refine x_gg (zc @hTAl (zc @hok @e1)) ?_)
        (first | exact x_ret (zc @hTAl (zc @hok @e1)) | refine x_retZ (zc @hTAl (zc @hok @e1)) ?_)
      · by_cases hb : begE r s = 0
        · obtain ⟨hb0, hb1⟩ := begE_zero hb
          obtain ⟨hv, hs2, hch⟩ := cs_zero hb1
          by_cases h2 : (ckR r (bgS r) s.pl l (lsB r s)).2 = 0
          · obtain ⟨q1, q2, q3, q4⟩ := ckR_ok h2
            have hx := ckL_ok hv (bg_SV hb0) l (lsB_ok hv hs2)
            have hp : plA r s l = .tup [stA (sdS s.pl (ckL r (bgS r) s.pl l (lsB r s))), .int 0] := by unfold plA; rw [if_pos hb, if_pos h2]
            have hc : ckA r s l = .tup [.int 0, .int 0] := by unfold ckA; rw [if_pos hb, q4]
            have hy := hx.1
            generalize ckL r (bgS r) s.pl l (lsB r s) = z at *
            unfold ovB rsB at q3
            simp only [Bool.and_eq_true, decide_eq_true_eq] at q3
            unfold sdS at hy hp q3
            simp only at q3
            rw [q3.2.1, q3.2.2] at hy hp
            exact bk_ok r s l (by omega) hl hfa haw hb0 s.pl hy hp hc
          · exact bk_err r s l (by omega) hl hfa haw s _ _ h2 (by unfold plA; rw [if_pos hb, if_neg h2]) (by unfold ckA; rw [if_pos hb])
        · exact bk_err r s l (by omega) hl hfa haw s _ _ hb (by unfold plA; rw [if_neg hb]) (by unfold ckA; rw [if_neg hb])
end Go.Proofs.Tryz
namespace Go.Vg
open Go.RowKit Go.ChangeShapes

abbrev XN : Nat → Prop := fun _ => False

def AV.simple : AV → Bool
  | .val _ | .lst _ _ => true
  | _ => false

theorem simple_at {w : World} {ρ : Rho} {x : AV} (h : x.simple = true) (sz b o : Nat) : Re XN w ρ x sz b o = OneAt w (fun v => R XN w ρ x v) sz b o := by
  cases x <;> simp_all [AV.simple] <;> rfl

/-- whatever reads as a value of type t is related to abstract cells of which Q holds -/
def Opens (P : Program) (t : TypeId) (Q : List AV → Prop) : Prop :=
  ∀ (H : Type) (enc : TypeId × Value → H) (w : World) (base : Nat) (spare : Nat → Bool) (held : Bool) (fuel : Nat) (cs : List Value) (x : DataW H × List MemPlace),
    DataW.trod enc P w base spare held fuel t cs = some x →
    ∃ xs, Q xs ∧ Rvals XN w [] xs cs ∧ xs.length = P.cellsOf t ∧ (∀ y ∈ xs, y.simple = true) ∧ ∀ v ∈ cs, v.oneCell' = true

theorem Opens.mono {P : Program} {t : TypeId} {Q Q' : List AV → Prop} (h : Opens P t Q) (hq : ∀ xs, Q xs → Q' xs) : Opens P t Q' :=
  fun H enc w base spare held fuel cs x hx => let ⟨xs, h1, h2⟩ := h H enc w base spare held fuel cs x hx; ⟨xs, hq xs h1, h2⟩

def i64 (n : Int) : Prop := -9223372036854775808 ≤ n ∧ n ≤ 9223372036854775807

theorem Opens.int {P : Program} {t : TypeId} (ht : P.underlying t = some (.int .i64)) (hc : P.cellsOf t = 1) : Opens P t fun xs => ∃ n, i64 n ∧ xs = [.int n] := by
  intro H enc w base spare held fuel cs x h
  obtain ⟨n, rfl, rfl, hw⟩ := DataW.trod_int ht h
  exact ⟨[.int n], ⟨n, bounds_i64 hw, rfl⟩, ⟨_, [], rfl, rfl, rfl⟩, by rw [hc]; rfl, by simp [AV.simple], by simp [Value.oneCell']⟩

theorem Opens.bool {P : Program} {t : TypeId} (ht : P.underlying t = some .bool) (hc : P.cellsOf t = 1) : Opens P t fun xs => ∃ b, xs = [.bool b] := by
  intro H enc w base spare held fuel cs x h
  obtain ⟨b, rfl, rfl⟩ := DataW.trod_bool ht h
  exact ⟨[.bool b], ⟨b, rfl⟩, ⟨_, [], rfl, rfl, rfl⟩, by rw [hc]; rfl, by simp [AV.simple], by simp [Value.oneCell']⟩

theorem Opens.str {P : Program} {t : TypeId} (ht : P.underlying t = some .string) (hc : P.cellsOf t = 1) : Opens P t fun xs => ∃ s : ByteArray, s.size ≤ maxLen ∧ xs = [.str s] := by
  intro H enc w base spare held fuel cs x h
  obtain ⟨s, rfl, rfl, hs⟩ := DataW.trod_string ht h
  exact ⟨[.str s], ⟨s, hs, rfl⟩, ⟨_, [], rfl, rfl, rfl⟩, by rw [hc]; rfl, by simp [AV.simple], by simp [Value.oneCell']⟩

def contig (P : Program) : Nat → List Field → Nat → Bool
  | o, [], n => o == n
  | o, f :: fs, n => f.offset == o && contig P (o + P.cellsOf f.type) fs n

inductive OpensFs (P : Program) : List Field → (List AV → Prop) → Prop
  | nil : OpensFs P [] fun xs => xs = []
  | cons {f : Field} {fs : List Field} {Q Q' : List AV → Prop} : Opens P f.type Q → OpensFs P fs Q' → OpensFs P (f :: fs) fun xs => ∃ a b, xs = a ++ b ∧ Q a ∧ Q' b

theorem opensFs_run {P : Program} {H : Type} {enc : TypeId × Value → H} {w : World} {base : Nat} {spare : Nat → Bool} {held : Bool} {fuel : Nat} {cs : List Value} :
    ∀ {fs : List Field} {Q : List AV → Prop}, OpensFs P fs Q → ∀ o, contig P o fs cs.length = true → (∀ f ∈ fs, ∃ x, DataW.trod enc P w base spare held fuel f.type ((cs.drop f.offset).take (P.cellsOf f.type)) = some x) →
    ∃ xs, Q xs ∧ Rvals XN w [] xs (cs.drop o) ∧ o + xs.length = cs.length ∧ (∀ y ∈ xs, y.simple = true) ∧ ∀ v ∈ cs.drop o, v.oneCell' = true
  | [], _, .nil, o, hc, _ => by
    simp only [contig, beq_iff_eq] at hc
    subst hc
    exact ⟨[], rfl, by simp [Rvals], by simp, by simp, by simp⟩
  | f :: fs, _, .cons h1 h2, o, hc, ht => by
    simp only [contig, Bool.and_eq_true, beq_iff_eq] at hc
    obtain ⟨x, hx⟩ := ht f (by simp)
    rw [hc.1] at hx
    obtain ⟨a, a1, a2, a3, a4, a5⟩ := h1 H enc w base spare held fuel _ x hx
    obtain ⟨b, b1, b2, b3, b4, b5⟩ := opensFs_run h2 (o + P.cellsOf f.type) hc.2 (fun g hg => ht g (by simp [hg]))
    have e : cs.drop o = (cs.drop o).take (P.cellsOf f.type) ++ cs.drop (o + P.cellsOf f.type) := by
      rw [← List.drop_drop, List.take_append_drop]
    refine ⟨a ++ b, ⟨a, b, rfl, a1, b1⟩, ?_, by simp; omega, ?_, ?_⟩
    · rw [e]; exact Rvals.append a2 b2
    · intro y hy
      rcases List.mem_append.1 hy with h | h
      · exact a4 y h
      · exact b4 y h
    · intro v hv
      rw [e] at hv
      rcases List.mem_append.1 hv with h | h
      · exact a5 v h
      · exact b5 v h

theorem Opens.struct {P : Program} {t : TypeId} {fs : Array Field} {Q : List AV → Prop} (ht : P.underlying t = some (.struct fs)) (hc : contig P 0 fs.toList (P.cellsOf t) = true) (hF : OpensFs P fs.toList Q) : Opens P t Q := by
  intro H enc w base spare held fuel cs x h
  obtain ⟨xs, n, rfl, rfl, hl, hlen, hf⟩ := DataW.trod_struct ht h
  obtain ⟨ys, h1, h2, h3, h4, h5⟩ := opensFs_run (enc := enc) (w := w) (base := base) (spare := spare) (held := held) (fuel := n) (cs := cs) hF 0 (by rw [hl]; exact hc) (fun f hf' => by
    obtain ⟨i, hi, e⟩ := List.getElem_of_mem hf'
    have hi' : i < fs.size := by simpa using hi
    have := hf i f (by rw [Array.getElem?_eq_getElem hi']; simpa using e)
    rw [this, List.getElem?_eq_getElem (by omega)]
    exact ⟨_, rfl⟩)
  exact ⟨ys, h1, by simpa using h2, by omega, h4, by simpa using h5⟩

def elemAV (P : Program) (e : TypeId) (xs : List AV) : AV :=
  match agg? P e with
  | some true => .agg xs
  | _ => xs.headD .any

theorem Rcells_of0 {w : World} {b : Nat} : ∀ {xs : List AV} {cs : List Value} {o : Nat}, Rvals XN w [] xs cs → (∀ i v, cs[i]? = some v → w.cell? ⟨b, o + i, none⟩ = some v ∧ v.oneCell' = true) → Rcells XN w [] xs b o
  | [], _, _, _, _ => trivial
  | x :: xs, _, o, ⟨v, vs, e, h1, h2⟩, h => by
    subst e
    refine ⟨⟨v, (h 0 v rfl).1, (h 0 v rfl).2, h1⟩, Rcells_of0 h2 fun i u hu => ?_⟩
    have := h (i + 1) u (by simpa using hu)
    rw [show o + 1 + i = o + (i + 1) by omega]
    exact this

theorem mapM_get {α β : Type} {f : α → Option β} : ∀ {l : List α} {r : List β}, l.mapM f = some r → ∀ (i : Nat) (y : β), r[i]? = some y → ∃ x, l[i]? = some x ∧ f x = some y
  | [], r, h, i, y, hy => by simp at h; subst h; simp at hy
  | a :: l, r, h, i, y, hy => by
    rw [List.mapM_cons] at h
    cases ha : f a with
    | none => rw [ha] at h; simp at h
    | some z =>
      rw [ha] at h
      cases hl : l.mapM f with
      | none => rw [hl] at h; simp at h
      | some q =>
        rw [hl] at h
        simp at h
        subst h
        cases i with
        | zero => simp at hy; subst hy; exact ⟨a, rfl, ha⟩
        | succ i => simpa using mapM_get hl i y (by simpa using hy)

theorem cells_get {w : World} {base n : Nat} {a : Addr} {cs : List Value} (h : w.cells? base a n = some cs) : ∀ i v, cs[i]? = some v → w.cell? (a.add i) = some v := by
  intro i v hi
  unfold World.cells? at h
  split at h
  · obtain ⟨x, h1, h2⟩ := mapM_get h i v hi
    have : x = i := by
      rw [List.getElem?_range] at h1
      · simpa using h1.symm
      · rcases Nat.lt_or_ge i n with h | h
        · exact h
        · rw [List.getElem?_eq_none (by simpa using h)] at h1; cases h1
    subst this
    exact h2
  · cases h

theorem Opens.slice {P : Program} {t e : TypeId} {Q : List AV → Prop} (ht : P.underlying t = some (.slice e)) (hc : P.cellsOf t = 1) (he : Opens P e Q) (hp : 0 < P.cellsOf e) (hag : agg? P e = some true ∨ agg? P e = some false ∧ P.cellsOf e = 1) :
    Opens P t fun xs => ∃ l : List (List AV), l.length ≤ maxLen ∧ xs = [.lst (P.cellsOf e) (l.map (elemAV P e))] ∧ ∀ y ∈ l, Q y := by
  intro H enc w base spare held fuel cs x h
  rcases Deep.open_slice ht h with ⟨rfl, rfl⟩ | ⟨a, len, cap, m, n, D, Pl, rfl, hb, hl, hm, hmm, rfl, hel⟩
  · refine ⟨_, ⟨[], by simp, rfl, by simp⟩, ⟨_, [], rfl, ⟨none, 0, rfl, by simp, by simp [maxLen], by simp⟩, rfl⟩, by rw [hc]; rfl, by simp [AV.simple], by simp [Value.oneCell']⟩
  · have hle : len ≤ m := by rw [hmm]; split <;> omega
    have hspot0 : 0 < len → a.spot = none := fun hpos => by
      obtain ⟨cs', c1, c2⟩ := hel 0 (by omega)
      obtain ⟨ys, y1, y2, y3, y4, y5⟩ := he H enc w base spare held n cs' _ c2
      have hlen := y2.len
      have hcell := cells_get c1
      cases cs' with
      | nil => simp at hlen; omega
      | cons v vs =>
        have := hcell 0 v rfl
        simp only [Nat.zero_mul, Addr.add, if_true] at this
        unfold World.cell? at this
        split at this
        · split at this
          · cases this
          · rename_i _ _ _ _ hs; simpa using hs
        · cases this
    have hadd : a.spot = none → ∀ n, a.add n = ⟨a.block, a.off + n, none⟩ := fun hs n => by
      unfold Addr.add
      split
      · rename_i h0; rw [h0]; cases a; simp_all
      · rfl
    have key : ∀ k, k ≤ len → ∃ l : List (List AV), l.length = len - k ∧ (∀ y ∈ l, Q y) ∧ (l ≠ [] → a.spot = none) ∧ Rrow XN w [] (l.map (elemAV P e)) (P.cellsOf e) a.block (a.off + k * P.cellsOf e) := by
      intro k
      induction hk : len - k generalizing k with
      | zero => intro _; exact ⟨[], rfl, by simp, by simp, by simp [Rrow]⟩
      | succ j ih =>
        intro hkl
        obtain ⟨l, l1, l2, l3, l4⟩ := ih (k + 1) (by omega) (by omega)
        obtain ⟨cs', c1, c2⟩ := hel k (by omega)
        obtain ⟨ys, y1, y2, y3, y4, y5⟩ := he H enc w base spare held n cs' _ c2
        have hlen := y2.len
        have hcell := cells_get c1
        have hspot : a.spot = none := hspot0 (by omega)
        refine ⟨ys :: l, by simp; omega, by simpa using ⟨y1, l2⟩, fun _ => hspot, ?_, ?_⟩
        · have hcell' : ∀ i v, cs'[i]? = some v → w.cell? ⟨a.block, a.off + k * P.cellsOf e + i, none⟩ = some v ∧ v.oneCell' = true := fun i v hv => by
            have h1 := hcell i v hv
            refine ⟨?_, y5 v (List.mem_of_getElem? hv)⟩
            rw [← h1, hadd hspot, Addr.add_none]
          rcases hag with hag | ⟨hag, h1⟩
          · unfold elemAV; rw [hag]
            exact ⟨y3, Rcells_of0 y2 hcell'⟩
          · unfold elemAV; rw [hag]
            rw [h1] at y3 ⊢
            match ys, y3 with
            | [y], _ =>
              show Re XN w [] y 1 a.block _
              rw [simple_at (y4 y (by simp))]
              obtain ⟨v, vs, rfl, q1, q2⟩ := y2
              have := hcell' 0 v rfl
              rw [h1] at this
              exact ⟨rfl, v, this.1, this.2, q1⟩
        · have e2 : a.off + k * P.cellsOf e + P.cellsOf e = a.off + (k + 1) * P.cellsOf e := by rw [Nat.add_mul]; omega
          rw [e2]
          exact l4
    obtain ⟨l, l1, l2, l3, l4⟩ := key 0 (by omega)
    refine ⟨_, ⟨l, by omega, rfl, l2⟩, ⟨_, [], rfl, ⟨some a, cap, by simp [l1], by simp [l1]; omega, hm, fun hne => ?_⟩, rfl⟩, by rw [hc]; rfl, by simp [AV.simple], by simp [Value.oneCell']⟩
    have hne' : l ≠ [] := by intro e; subst e; simp at hne
    refine ⟨a.block, a.off, ?_, ⟨by simp, by simp⟩, hp, by simpa using l4⟩
    have := l3 hne'
    cases a; simp_all

/-! typed forms -/
theorem map_ex {α : Type} {P : Program} {e : TypeId} {f : α → List AV} {g : α → AV} {W : α → Prop} (hfg : ∀ a, elemAV P e (f a) = g a) : ∀ {l : List (List AV)}, (∀ y ∈ l, ∃ a, W a ∧ y = f a) → ∃ ys : List α, ys.length = l.length ∧ (∀ a ∈ ys, W a) ∧ l.map (elemAV P e) = ys.map g
  | [], _ => ⟨[], rfl, by simp, rfl⟩
  | y :: l, h => by
    obtain ⟨a, ha, rfl⟩ := h y (by simp)
    obtain ⟨ys, h0, h1, h2⟩ := map_ex hfg (l := l) fun z hz => h z (by simp [hz])
    exact ⟨a :: ys, by simp [h0], by simpa using ⟨ha, h1⟩, by simp [h2, hfg]⟩

theorem Opens.sliceT {P : Program} {t e : TypeId} {α : Type} {f : α → List AV} {g : α → AV} {W : α → Prop} (ht : P.underlying t = some (.slice e)) (hc : P.cellsOf t = 1) (he : Opens P e fun xs => ∃ a, W a ∧ xs = f a) (n : Nat) (hn : P.cellsOf e = n) (hp : 0 < n)
    (hag : agg? P e = some true ∨ agg? P e = some false ∧ n = 1) (hfg : ∀ a, elemAV P e (f a) = g a) :
    Opens P t fun xs => ∃ l : List α, (l.length ≤ maxLen ∧ ∀ a ∈ l, W a) ∧ xs = [.lst n (l.map g)] := by
  subst hn
  refine (Opens.slice ht hc he hp hag).mono ?_
  rintro xs ⟨l, h1, rfl, h2⟩
  obtain ⟨ys, h0, h3, h4⟩ := map_ex hfg h2
  exact ⟨ys, ⟨by omega, h3⟩, by rw [h4]⟩

theorem Opens.ints {P : Program} {t e : TypeId} (ht : P.underlying t = some (.slice e)) (hc : P.cellsOf t = 1) (he : P.underlying e = some (.int .i64)) (hn : P.cellsOf e = 1) (hag : agg? P e = some false) :
    Opens P t fun xs => ∃ l : List Int, (l.length ≤ maxLen ∧ ∀ a ∈ l, i64 a) ∧ xs = [.ints l] :=
  Opens.sliceT (f := fun n : Int => [AV.int n]) (g := AV.int) (W := i64) ht hc (Opens.int he hn) 1 hn (by omega) (.inr ⟨hag, rfl⟩) (fun a => by unfold elemAV; rw [hag]; rfl)
theorem Opens.strs {P : Program} {t e : TypeId} (ht : P.underlying t = some (.slice e)) (hc : P.cellsOf t = 1) (he : P.underlying e = some .string) (hn : P.cellsOf e = 1) (hag : agg? P e = some false) :
    Opens P t fun xs => ∃ l : List ByteArray, (l.length ≤ maxLen ∧ ∀ a ∈ l, a.size ≤ maxLen) ∧ xs = [.strs l] :=
  Opens.sliceT (f := fun b : ByteArray => [AV.str b]) (g := AV.str) (W := fun b => b.size ≤ maxLen) ht hc (Opens.str he hn) 1 hn (by omega) (.inr ⟨hag, rfl⟩) (fun a => by unfold elemAV; rw [hag]; rfl)

/-- all arguments -/
inductive OpensAll (P : Program) : List TypeId → (List AV → Prop) → Prop
  | nil : OpensAll P [] fun xs => xs = []
  | cons {t : TypeId} {ts : List TypeId} {Q Q' : List AV → Prop} : (agg? P t = some true ∨ agg? P t = some false ∧ P.cellsOf t = 1) → Opens P t Q → OpensAll P ts Q' → OpensAll P (t :: ts) fun xs => ∃ a b, xs = elemAV P t a :: b ∧ Q a ∧ Q' b

theorem okWide_agg {P : Program} {t : TypeId} {w : World} {r : Reach} {b : Nat} {v : Value} (h : agg? P t = some true) (hv : Value.okWide P w r b t v) : ∃ cs, v = .agg cs := by
  unfold agg? at h
  unfold Value.okWide at hv
  revert h hv
  cases P.underlying t with
  | none => simp
  | some d => cases d <;> simp <;> (intro x h _ _; exact ⟨x, h⟩)

theorem cells_one {v : Value} {cs : List Value} (h : v.cells.toList = cs) (h1 : cs.length = 1) (ho : ∀ u ∈ cs, u.oneCell' = true) (hn : ∀ x, v ≠ .agg x) : cs = [v] := by
  cases v <;> simp_all [Value.cells]

theorem okWide_one {P : Program} {t : TypeId} {w : World} {r : Reach} {b : Nat} {v : Value} (h : agg? P t = some false) (hv : Value.okWide P w r b t v) : ∀ cs, v ≠ .agg cs := by
  rintro cs rfl
  unfold agg? at h
  unfold Value.okWide at hv
  revert h hv
  cases hu : P.underlying t with
  | none => simp
  | some d => cases d <;> simp [Cell.okWide, Cell.ok, hu]

theorem opensAll_run {P : Program} {H : Type} {enc : TypeId × Value → H} {w : World} {base b0 : Nat} {r : Reach} {spare : Nat → Bool} {held : Bool} : ∀ {ts : List TypeId} {Q : List AV → Prop}, OpensAll P ts Q → ∀ {vs : List Value} {ds : List (DataW H)} {ps : List MemPlace},
    DataW.TrodAll enc P w base spare held ts vs ds ps → (∀ (j : Nat) t v, ts[j]? = some t → vs[j]? = some v → Value.okWide P w r b0 t v) → ∃ xs, Q xs ∧ Rvals XN w [] xs vs
  | [], _, .nil, vs, ds, ps, h, _ => by
    obtain ⟨rfl, rfl, rfl⟩ := trodAll_nil h
    exact ⟨[], rfl, rfl⟩
  | t :: ts, _, .cons hag h1 h2, vs, ds, ps, h, hv => by
    obtain ⟨v, vs', d, ds', p, q, rfl, rfl, rfl, ⟨fuel, hd⟩, hr⟩ := trodAll_cons h
    obtain ⟨a, a1, a2, a3, a4, a5⟩ := h1 H enc w base spare held fuel _ _ hd
    obtain ⟨b, b1, b2⟩ := opensAll_run h2 hr fun j t' v' ht' hv' => hv (j + 1) t' v' (by simpa using ht') (by simpa using hv')
    have hov := hv 0 t v rfl rfl
    refine ⟨elemAV P t a :: b, ⟨a, b, rfl, a1, b1⟩, v, vs', rfl, ?_, b2⟩
    rcases hag with hag | ⟨hag, hone⟩
    · obtain ⟨cs, rfl⟩ := okWide_agg hag hov
      unfold elemAV; rw [hag]
      exact ⟨cs.toList, by simp, by simpa [Value.cells] using a2⟩
    · have hl := a2.len
      rw [a3, hone] at hl
      have := cells_one (v := v) rfl hl a5 (okWide_one hag hov)
      rw [this] at a2
      match a, a3.trans hone with
      | [x], _ =>
        obtain ⟨u, us, e, q1, q2⟩ := a2
        simp at e
        unfold elemAV; rw [hag]
        rw [e.1]
        exact q1

theorem Tr.below {w w' : World} (h : Tr w [] w' []) : Below w.heap.size w w' :=
  ⟨h.os, h.tape, h.output, h.size, fun k hk => (h.block k (by simp) hk).2⟩

theorem trodAll_below {P : Program} {H : Type} {enc : TypeId × Value → H} {W W' : World} (hl : laidOutB P = true) (hb : Below W.heap.size W W') : ∀ {ts : List TypeId} {vs : List Value} {ds : List (DataW H)} {ps : List MemPlace},
    (∀ t ∈ ts, P.readableRec t = true ∧ t < P.types.size) → DataW.TrodAll enc P W 0 (fun _ => true) true ts vs ds ps → (∀ x ∈ ps, x.block < W.heap.size) → ∀ sp : Nat → Bool, (∀ x ∈ ps, sp x.block = true) → DataW.TrodAll enc P W' 0 sp true ts vs ds ps
  | [], vs, ds, ps, _, h, _, sp, _ => by
    obtain ⟨rfl, rfl, rfl⟩ := trodAll_nil h
    simp [DataW.TrodAll]
  | t :: ts, vs, ds, ps, hr, h, hlt, sp, hsp => by
    obtain ⟨v, vs', d, ds', p, q, rfl, rfl, rfl, h1, h2⟩ := trodAll_cons h
    refine ⟨p, q, ?_, trodAll_below hl hb (fun t ht => hr t (by simp [ht])) h2 (fun x hx => hlt x (by simp [hx])) sp (fun x hx => hsp x (by simp [hx])), rfl⟩
    exact WideElems.Trod_stays hl (hr t (by simp)).1 (hr t (by simp)).2 h1 (fun x hx => hb.same (hlt x (by simp [hx]))) (fun x hx => hsp x (by simp [hx]))

/-- as the kit's post_of_same, but of frozen cells only what the arguments need -/
theorem post_of_below {P : Program} {H : Type} {enc : TypeId × Value → H} {f : Func} {s : ChangeSpec} {apart fresh handsOn again : Bool} {W W' : World} {args : Array Value} {v : Value} {ds gs : List (DataW H)} {before pa pv : List MemPlace}
    (hW : DataW.Whole enc P f.params.toList s.vars apart W args.toList ds gs before)
    (hres : ∀ (b : Nat) (sp : Nat → Bool) (hd : Bool), DataW.TrodAll enc P W' b sp hd f.resultTypes.toList (v.resultList f.resultTypes.size) (s.fn H (ds ++ gs)).results [])
    (hargs : ∀ sp : Nat → Bool, (∀ p ∈ before, sp p.block = true) → DataW.TrodAll enc P W' 0 sp true f.params.toList args.toList (s.fn H (ds ++ gs)).args pa)
    (hvars : ∀ sp : Nat → Bool, (∀ p ∈ before, sp p.block = true) → DataW.TrodVars enc P W' sp s.vars (s.fn H (ds ++ gs)).vars pv)
    (hps : before = pa ++ pv) (hk : W.keptBut W' (· ∈ before)) (hfz : ∀ a : Addr, a.block < W.heap.size → W'.frozen? a = W.frozen? a)
    (hok : ∀ (j : Nat) (t : TypeId) (r : Value), f.resultTypes[j]? = some t → (v.resultList f.resultTypes.size)[j]? = some r → Value.okWide P W' .any 0 t r) :
    s.post enc P f apart fresh handsOn again W args v W' := by
  have hold : ∀ p ∈ before, (fun b => decide (b < W.heap.size)) p.block = true := fun p hp => by simpa using hW.lt p hp
  refine ⟨ds, gs, before, [], pa, pv, hW, hres _ _ _, hargs _ hold, hvars _ hold, World.keptBut_mono (fun p hp => ⟨hp, ?_⟩) hk, fun _ => ?_⟩
  · rw [hps, List.mem_append] at hp
    exact Or.inr hp
  · have hlt := hW.lt
    obtain ⟨_, _, _, _, _, hz, hn⟩ := hW
    refine ⟨hok, _, _, ([] ++ pa) ++ pv, ⟨[] ++ pa, pv, trodAll_append (hargs _ (fun _ _ => rfl)) (hres _ _ _), hvars _ (fun _ _ => rfl), rfl, ?_, ?_⟩, ?_⟩
    · intro b off hp
      have hp' := hp
      rw [hfz]
      · exact hz b off (by rw [hps]; simpa using hp)
      · have := hlt (.cell b off) (by rw [hps]; simpa using hp)
        exact this
    · intro ha
      have := hn ha
      rw [hps] at this
      simpa using this
    · intro p hp _
      rw [hps]
      simpa using hp

/-- a law's contract, from its 'Pure' at what the arguments read as -/
theorem law_contract_one {P : Program} {f : FuncId} {fn : Func} {s : ChangeSpec} {tb : TypeId} (hl : laidOutB P = true) (hts : ∀ t ∈ fn.params.toList, P.readableRec t = true ∧ t < P.types.size)
    (hv0 : s.vars = []) (hs : ∀ (H : Type) (ds : List (DataW H)), ds.length = fn.params.toList.length → s.fn H ds = { results := [.lit (.bool true)], args := ds }) (hrt : fn.resultTypes = #[tb]) (htb : P.underlying tb = some .bool)
    {W : World} {args : Array Value} (xs : List AV) (hR : Rvals XN W [] xs args.toList) (hp : Pure P f xs (.bool true))
    (H : Type) (enc : TypeId × Value → H) (base : Nat) (ds gs : List (DataW H)) (before : List MemPlace)
    (hval : ∀ (j : Nat) t v, fn.params[j]? = some t → args[j]? = some v → Value.okWide P W .any base t v)
    (hW : DataW.Whole enc P fn.params.toList s.vars false W args.toList ds gs before) (hgd : Gd XN W []) :
    Calls P f args W fun e W' => ∃ v, e = .returned v ∧ s.post enc P fn false true false false W args v W' := by
  have hW' := hW
  obtain ⟨p, q, hA, hV, hbef, hfz, hnd⟩ := hW
  rw [hv0] at hV
  obtain ⟨rfl, rfl⟩ := trodVars_none hV
  have hlen : ds.length = fn.params.toList.length := by
    clear hval hR hW' hV hbef hnd hfz hts hs
    generalize fn.params.toList = ts at hA
    generalize args.toList = vs at hA
    clear hv0 hrt
    revert vs ds p
    induction ts with
    | nil => intro ds p vs h; obtain ⟨rfl, rfl, rfl⟩ := trodAll_nil h; rfl
    | cons t ts ih => intro ds p vs h; obtain ⟨v, vs', d, ds', p, q, rfl, rfl, rfl, h1, h2⟩ := trodAll_cons h; simp [ih _ _ _ h2]
  have hc := hp XN W [] args.toList (Inv.empty (by simp) hgd) hR
  rw [show args.toList.toArray = args by simp] at hc
  refine hc.mono fun e W' h => ?_
  obtain ⟨v, x, m', ρ', rfl, ⟨rfl, rfl⟩, hv, hi, ht⟩ := h
  have : ρ' = [] := List.length_eq_zero_iff.1 hi.len
  subst this
  have hvb : v = .bool true := hv
  subst hvb
  have hb := ht.below
  have hlt : ∀ x ∈ p, x.block < W.heap.size := fun x hx => by simpa using hW'.lt x (by rw [hbef]; simp [hx])
  have hsf : s.fn H (ds ++ []) = { results := [.lit (.bool true)], args := ds } := by rw [List.append_nil]; exact hs H ds hlen
  refine ⟨_, rfl, post_of_below (pa := p) (pv := []) hW' ?_ ?_ ?_ hbef (hb.frame _) (fun a ha => hb.frozen ha) (ok_one hrt rfl (okWide_bool_mk htb _))⟩
  · intro b sp hd
    rw [hrt, hsf]
    exact trodAll_cons_mk (shut_bool htb _) trodAll_mk0
  · intro sp hsp
    rw [hsf]
    exact trodAll_below hl hb hts hA hlt sp (fun x hx => hsp x (by rw [hbef]; simp [hx]))
  · intro sp hsp
    rw [hsf, hv0]
    rfl

/-- a law's contract, from its 'Pure' -/
theorem law_contract {P : Program} {f : FuncId} {fn : Func} {s : ChangeSpec} {Q : List AV → Prop} {tb : TypeId} (hl : laidOutB P = true) (hts : ∀ t ∈ fn.params.toList, P.readableRec t = true ∧ t < P.types.size)
    (hv0 : s.vars = []) (hs : ∀ (H : Type) (ds : List (DataW H)), ds.length = fn.params.toList.length → s.fn H ds = { results := [.lit (.bool true)], args := ds }) (hrt : fn.resultTypes = #[tb]) (htb : P.underlying tb = some .bool)
    (hO : OpensAll P fn.params.toList Q) (hp : ∀ xs, Q xs → Pure P f xs (.bool true))
    (H : Type) (enc : TypeId × Value → H) (W : World) (base : Nat) (args : Array Value) (ds gs : List (DataW H)) (before : List MemPlace)
    (hval : ∀ (j : Nat) t v, fn.params[j]? = some t → args[j]? = some v → Value.okWide P W .any base t v)
    (hW : DataW.Whole enc P fn.params.toList s.vars false W args.toList ds gs before) (hgd : Gd XN W []) :
    Calls P f args W fun e W' => ∃ v, e = .returned v ∧ s.post enc P fn false true false false W args v W' := by
  have hW0 := hW
  obtain ⟨p, q, hA, hV, hbef, hfz, hnd⟩ := hW
  obtain ⟨xs, hQ, hR⟩ := opensAll_run (r := .any) (b0 := base) hO hA (fun j t v ht hv => hval j t v (by simpa using ht) (by simpa using hv))
  exact law_contract_one hl hts hv0 hs hrt htb xs hR (hp xs hQ) H enc base ds gs before hval hW0 hgd
end Go.Vg
set_option maxHeartbeats 8000000
namespace Go.Proofs.Tryz
open Go.Vg

/-! what the row's list gives: the two variables that the code reads -/
theorem g0Name : Tryz.prog.globalNamed "internal/strconv.uint64pow10" = some 0 := by kernel_rfl
theorem g1Name : Tryz.prog.globalNamed "padlock/room.reserved" = some 1 := by kernel_rfl
theorem gd_laid {W : World} {d1 d2 : DataW Unit} (h : laidMet Tryz.prog [("math/bits.deBruijn32tab", d1), ("math/bits.deBruijn64tab", d2), ("internal/strconv.uint64pow10", Lib.tabData .u64 Lib.pow10Tab), ("padlock/room.reserved", .slice (rsvd.map fun s => .lit (.string s.data.toList)) [])] W) : Gd XN W [] := by
  obtain ⟨ps, ⟨g1, t1, c1, f1, p1, q1, _, _, _, _, ⟨g2, t2, c2, f2, p2, q2, _, _, _, _, ⟨g3, t3, c3, f3, p3, q3, hg3, ht3, hv3, hd3, ⟨g4, t4, c4, f4, p4, q4, hg4, ht4, hv4, hd4, _, _⟩, _⟩, _⟩, _⟩, _⟩ := h
  have hcell : ∀ {n : String} {g : Nat} {cs : Array Value}, Tryz.prog.globalNamed n = some g → W.var? Tryz.prog n = some cs → ∃ e fr, W.heap[g]? = some (.cells cs e fr) := fun {n g cs} h1 h2 => by
    unfold World.var? at h2
    rw [h1, Option.bind_some] at h2
    split at h2
    · rename_i c e fr hh
      cases h2
      exact ⟨e, fr, hh⟩
    · cases h2
  obtain rfl := Option.some.inj (g0Name.symm.trans hg3)
  obtain rfl := Option.some.inj (g1Name.symm.trans hg4)
  obtain rfl : (208 : Nat) = t3 := Option.some.inj ((show (Tryz.prog.globals[0]?).map (·.type) = some 208 by kernel_rfl).symm.trans ht3)
  obtain rfl : (22 : Nat) = t4 := Option.some.inj ((show (Tryz.prog.globals[1]?).map (·.type) = some 22 by kernel_rfl).symm.trans ht4)
  obtain ⟨e3, fr3, h3⟩ := hcell g0Name hv3
  obtain ⟨e4, fr4, h4⟩ := hcell g1Name hv4
  have k3 := Lib.cells_of_tab Tryz.underlying208 Tryz.underlying175 (by kernel_rfl) (by kernel_rfl) hd3
  have free : ∀ b, Free XN [] b := fun b => ⟨fun h => h, fun r hr => (by cases hr)⟩
  refine ⟨fun g hg => (by cases hg), fun g s hg => ?_, fun g v hg => ?_⟩
  · obtain ⟨rfl, rfl⟩ : 1 = g ∧ rsvd = s := by
      unfold GR at hg
      simp only [Option.some.injEq, Prod.mk.injEq] at hg
      exact hg
    rcases Deep.open_strs Tryz.underlying22 Tryz.underlying9 (by kernel_rfl) hd4 with ⟨_, hx⟩ | ⟨a, len, cap, m, Sx, hcs, hb, hl, hm, hmm, hx, hcl⟩
    · cases hx
    · simp only [Prod.mk.injEq, DataW.slice.injEq] at hx
      obtain ⟨⟨hx1, hx2⟩, _⟩ := hx
      have hlen : len = rsvd.length := by
        have := congrArg List.length hx1
        simpa using this.symm
      have hm2 : len ≤ m := by rw [hmm]; split <;> omega
      have hpos : 0 < rsvd.length := by decide
      have c0 := (hcl 0 (by omega)).1
      have hsp : a.spot = none := by
        unfold World.cell? at c0
        simp only [Addr.add, if_true] at c0
        split at c0
        · split at c0
          · cases c0
          · rename_i hh; simpa using hh
        · cases c0
      obtain ⟨b, o, sp⟩ := a
      simp only at hsp
      subst hsp
      refine ⟨b, o, cap, ?_, by omega, hm, hpos, fun i hi => ?_, free 1, free b⟩
      · unfold World.cell?
        rw [h4]
        have : c4 = #[.slice (some ⟨b, o, none⟩) len cap] := by
          apply Array.toList_inj.1
          rw [hcs]
        rw [this, hlen]
        rfl
      · have c1 := (hcl i (by omega)).1
        have e1 : (Addr.add ⟨b, o, none⟩ i) = ⟨b, o + i, none⟩ := by
          unfold Addr.add
          split
          · rename_i hz; subst hz; rfl
          · rfl
        rw [e1] at c1
        rw [c1]
        have e2 : (rsvd.map fun s => (DataW.lit (.string s.data.toList) : DataW Unit))[i]? = ((List.range len).map fun i => (DataW.lit (.string (Sx i).data.toList) : DataW Unit))[i]? := by rw [hx1]
        simp only [List.getElem?_map, List.getElem?_range (show i < len by omega), List.getElem?_eq_getElem hi, Option.map_some, Option.some.injEq, DataW.lit.injEq, Lit.string.injEq] at e2
        have e3 : Sx i = rsvd[i] := by
          have : (Sx i).data = (rsvd[i]).data := Array.toList_inj.1 e2.symm
          cases hq : Sx i with
          | mk d => rw [hq] at this; simp only at this; cases hr : rsvd[i] with
            | mk d' => rw [hr] at this; simp only at this; rw [this]
        rw [e3]
        simp [hi]
  · obtain ⟨rfl, rfl⟩ : 0 = g ∧ pow10V = v := by
      unfold GV at hg
      simp only [Option.some.injEq, Prod.mk.injEq] at hg
      exact hg
    refine ⟨⟨e3, fr3, ?_⟩, free 0⟩
    rw [h3]
    have : c3 = pow10V.toArray := by
      apply Array.toList_inj.1
      rw [k3]
      simp [pow10V, Lib.pow10Tab, List.map_map]
    rw [this]
end Go.Proofs.Tryz
set_option maxHeartbeats 8000000
namespace Go.Proofs.Tryz
open Go.Vg

/-! what the arguments read as: rooms and states -/
theorem oInt : Opens Tryz.prog 3 fun xs => ∃ n : Int, xs = [.int n] := (Opens.int Tryz.underlying3 (by kernel_rfl)).mono fun xs ⟨n, _, e⟩ => ⟨n, e⟩
theorem oBool : Opens Tryz.prog 4 fun xs => ∃ b : Bool, xs = [.bool b] := Opens.bool Tryz.underlying4 (by kernel_rfl)
theorem oStr : Opens Tryz.prog 9 fun xs => ∃ s : ByteArray, xs = [.str s] := (Opens.str Tryz.underlying9 (by kernel_rfl)).mono fun xs ⟨n, _, e⟩ => ⟨n, e⟩
theorem oInts : Opens Tryz.prog 32 fun xs => ∃ l : List Int, xs = [.ints l] := (Opens.ints Tryz.underlying32 (by kernel_rfl) Tryz.underlying3 (by kernel_rfl) (by kernel_rfl)).mono fun xs ⟨n, _, e⟩ => ⟨n, e⟩
theorem oStrs : Opens Tryz.prog 22 fun xs => ∃ l : List ByteArray, xs = [.strs l] := (Opens.strs Tryz.underlying22 (by kernel_rfl) Tryz.underlying9 (by kernel_rfl) (by kernel_rfl)).mono fun xs ⟨n, _, e⟩ => ⟨n, e⟩
theorem oLt : Opens Tryz.prog 136 fun xs => ∃ x : Lt, True ∧ xs = [.int x.th, .int x.st, .bool x.no] :=
  (Opens.struct Tryz.underlying136 (by kernel_rfl) (.cons oInt (.cons oInt (.cons oBool .nil)))).mono (by
    rintro xs ⟨_, _, rfl, ⟨a, rfl⟩, _, _, rfl, ⟨b, rfl⟩, _, _, rfl, ⟨c, rfl⟩, rfl⟩
    exact ⟨⟨a, b, c⟩, trivial, rfl⟩)
theorem oCd : Opens Tryz.prog 29 fun xs => ∃ l : List Lt, xs = [.lst 3 (l.map ltA)] :=
  (Opens.sliceT (f := fun x : Lt => [AV.int x.th, AV.int x.st, AV.bool x.no]) (g := ltA) (W := fun _ => True) Tryz.underlying29 (by kernel_rfl) oLt 3 (by kernel_rfl) (by decide) (.inl (by kernel_rfl)) (fun _ => by unfold elemAV; rw [Go.Proofs.Tryz.agg_136]; rfl)).mono fun xs ⟨n, _, e⟩ => ⟨n, e⟩
theorem oSe : Opens Tryz.prog 106 fun xs => ∃ x : Se, True ∧ xs = [.int x.th, .int x.st] :=
  (Opens.struct Tryz.underlying106 (by kernel_rfl) (.cons oInt (.cons oInt .nil))).mono (by
    rintro xs ⟨_, _, rfl, ⟨a, rfl⟩, _, _, rfl, ⟨b, rfl⟩, rfl⟩
    exact ⟨⟨a, b⟩, trivial, rfl⟩)
theorem oSes : Opens Tryz.prog 101 fun xs => ∃ l : List Se, xs = [.lst 2 (l.map seA)] :=
  (Opens.sliceT (f := fun x : Se => [AV.int x.th, AV.int x.st]) (g := seA) (W := fun _ => True) Tryz.underlying101 (by kernel_rfl) oSe 2 (by kernel_rfl) (by decide) (.inl (by kernel_rfl)) (fun _ => by unfold elemAV; rw [Go.Proofs.Tryz.agg_106]; rfl)).mono fun xs ⟨n, _, e⟩ => ⟨n, e⟩
theorem oTh : Opens Tryz.prog 73 fun xs => ∃ x : Th, True ∧ xs = [.str x.nm, .int x.pl, .int x.ss, .int x.st] :=
  (Opens.struct Tryz.underlying73 (by kernel_rfl) (.cons oStr (.cons oInt (.cons oInt (.cons oInt .nil))))).mono (by
    rintro xs ⟨_, _, rfl, ⟨a, rfl⟩, _, _, rfl, ⟨b, rfl⟩, _, _, rfl, ⟨c, rfl⟩, _, _, rfl, ⟨d, rfl⟩, rfl⟩
    exact ⟨⟨a, b, c, d⟩, trivial, rfl⟩)
theorem oThs : Opens Tryz.prog 23 fun xs => ∃ l : List Th, xs = [.lst 4 (l.map thA)] :=
  (Opens.sliceT (f := fun x : Th => [AV.str x.nm, AV.int x.pl, AV.int x.ss, AV.int x.st]) (g := thA) (W := fun _ => True) Tryz.underlying23 (by kernel_rfl) oTh 4 (by kernel_rfl) (by decide) (.inl (by kernel_rfl)) (fun _ => by unfold elemAV; rw [Go.Proofs.Tryz.agg_73]; rfl)).mono fun xs ⟨n, _, e⟩ => ⟨n, e⟩
theorem oPp : Opens Tryz.prog 98 fun xs => ∃ x : Pp, True ∧ xs = [.str x.nm, .int x.pl, .lst 3 (x.wh.map ltA)] :=
  (Opens.struct Tryz.underlying98 (by kernel_rfl) (.cons oStr (.cons oInt (.cons oCd .nil)))).mono (by
    rintro xs ⟨_, _, rfl, ⟨a, rfl⟩, _, _, rfl, ⟨b, rfl⟩, _, _, rfl, ⟨c, rfl⟩, rfl⟩
    exact ⟨⟨a, b, c⟩, trivial, rfl⟩)
theorem oPps : Opens Tryz.prog 24 fun xs => ∃ l : List Pp, xs = [.lst 3 (l.map ppA)] :=
  (Opens.sliceT (f := fun x : Pp => [AV.str x.nm, AV.int x.pl, AV.lst 3 (x.wh.map ltA)]) (g := ppA) (W := fun _ => True) Tryz.underlying24 (by kernel_rfl) oPp 3 (by kernel_rfl) (by decide) (.inl (by kernel_rfl)) (fun _ => by unfold elemAV; rw [Go.Proofs.Tryz.agg_98]; rfl)).mono fun xs ⟨n, _, e⟩ => ⟨n, e⟩
theorem oWy : Opens Tryz.prog 100 fun xs => ∃ x : Wy, True ∧ xs = [.int x.a, .int x.b, .lst 3 (x.wh.map ltA)] :=
  (Opens.struct Tryz.underlying100 (by kernel_rfl) (.cons oInt (.cons oInt (.cons oCd .nil)))).mono (by
    rintro xs ⟨_, _, rfl, ⟨a, rfl⟩, _, _, rfl, ⟨b, rfl⟩, _, _, rfl, ⟨c, rfl⟩, rfl⟩
    exact ⟨⟨a, b, c⟩, trivial, rfl⟩)
theorem oWys : Opens Tryz.prog 25 fun xs => ∃ l : List Wy, xs = [.lst 3 (l.map wyA)] :=
  (Opens.sliceT (f := fun x : Wy => [AV.int x.a, AV.int x.b, AV.lst 3 (x.wh.map ltA)]) (g := wyA) (W := fun _ => True) Tryz.underlying25 (by kernel_rfl) oWy 3 (by kernel_rfl) (by decide) (.inl (by kernel_rfl)) (fun _ => by unfold elemAV; rw [Go.Proofs.Tryz.agg_100]; rfl)).mono fun xs ⟨n, _, e⟩ => ⟨n, e⟩
theorem oAc : Opens Tryz.prog 103 fun xs => ∃ x : Ac, True ∧ xs = [.str x.nm, .int x.pl, .int x.lk, .ints x.us, .lst 3 (x.wh.map ltA), .lst 2 (x.se.map seA), .ints x.sp, .ints x.br] :=
  (Opens.struct Tryz.underlying103 (by kernel_rfl) (.cons oStr (.cons oInt (.cons oInt (.cons oInts (.cons oCd (.cons oSes (.cons oInts (.cons oInts .nil))))))))).mono (by
    rintro xs ⟨_, _, rfl, ⟨a, rfl⟩, _, _, rfl, ⟨b, rfl⟩, _, _, rfl, ⟨c, rfl⟩, _, _, rfl, ⟨d, rfl⟩, _, _, rfl, ⟨e, rfl⟩, _, _, rfl, ⟨f, rfl⟩, _, _, rfl, ⟨g, rfl⟩, _, _, rfl, ⟨h, rfl⟩, rfl⟩
    exact ⟨⟨a, b, c, d, e, f, g, h⟩, trivial, rfl⟩)
theorem oAcs : Opens Tryz.prog 26 fun xs => ∃ l : List Ac, xs = [.lst 8 (l.map acA)] :=
  (Opens.sliceT (f := fun x : Ac => [AV.str x.nm, AV.int x.pl, AV.int x.lk, AV.ints x.us, AV.lst 3 (x.wh.map ltA), AV.lst 2 (x.se.map seA), AV.ints x.sp, AV.ints x.br]) (g := acA) (W := fun _ => True) Tryz.underlying26 (by kernel_rfl) oAc 8 (by kernel_rfl) (by decide) (.inl (by kernel_rfl)) (fun _ => by unfold elemAV; rw [Go.Proofs.Tryz.agg_103]; rfl)).mono fun xs ⟨n, _, e⟩ => ⟨n, e⟩
theorem oAu : Opens Tryz.prog 108 fun xs => ∃ x : Au, True ∧ xs = [.lst 3 (x.wh.map ltA), .int x.th, .int x.st] :=
  (Opens.struct Tryz.underlying108 (by kernel_rfl) (.cons oCd (.cons oSe .nil))).mono (by
    rintro xs ⟨_, _, rfl, ⟨a, rfl⟩, _, _, rfl, ⟨b, _, rfl⟩, rfl⟩
    exact ⟨⟨a, b.th, b.st⟩, trivial, rfl⟩)
theorem oAus : Opens Tryz.prog 27 fun xs => ∃ l : List Au, xs = [.lst 3 (l.map auA)] :=
  (Opens.sliceT (f := fun x : Au => [AV.lst 3 (x.wh.map ltA), AV.int x.th, AV.int x.st]) (g := auA) (W := fun _ => True) Tryz.underlying27 (by kernel_rfl) oAu 3 (by kernel_rfl) (by decide) (.inl (by kernel_rfl)) (fun _ => by unfold elemAV; rw [Go.Proofs.Tryz.agg_108]; rfl)).mono fun xs ⟨n, _, e⟩ => ⟨n, e⟩
theorem oRm : Opens Tryz.prog 31 fun xs => ∃ r : Rm, xs = rmC r :=
  (Opens.struct Tryz.underlying31 (by kernel_rfl) (.cons oStrs (.cons oThs (.cons oPps (.cons oWys (.cons oAcs (.cons oAus (.cons oInt (.cons oCd .nil))))))))).mono (by
    rintro xs ⟨_, _, rfl, ⟨a, rfl⟩, _, _, rfl, ⟨b, rfl⟩, _, _, rfl, ⟨c, rfl⟩, _, _, rfl, ⟨d, rfl⟩, _, _, rfl, ⟨e, rfl⟩, _, _, rfl, ⟨f, rfl⟩, _, _, rfl, ⟨g, rfl⟩, _, _, rfl, ⟨h, rfl⟩, rfl⟩
    exact ⟨⟨a, b, c, d, e, f, g, h⟩, rfl⟩)
theorem oSt : Opens Tryz.prog 34 fun xs => ∃ s : St, xs = [.ints s.ts, .ints s.pp, .ints s.pl] :=
  (Opens.struct Tryz.underlying34 (by kernel_rfl) (.cons oInts (.cons oInts (.cons oInts .nil)))).mono (by
    rintro xs ⟨_, _, rfl, ⟨a, rfl⟩, _, _, rfl, ⟨b, rfl⟩, _, _, rfl, ⟨c, rfl⟩, rfl⟩
    exact ⟨⟨a, b, c⟩, rfl⟩)
end Go.Proofs.Tryz
set_option maxHeartbeats 8000000
namespace Go.Proofs.Tryz
open Go.Vg

/-! what the arguments read as: a room, a state, and more -/
theorem elemAV_agg {e : TypeId} {xs : List AV} (h : agg? Tryz.prog e = some true) : elemAV Tryz.prog e xs = .agg xs := by unfold elemAV; rw [h]
theorem elemAV_one {e : TypeId} {x : AV} (h : agg? Tryz.prog e = some false) : elemAV Tryz.prog e [x] = x := by unfold elemAV; rw [h]; rfl
theorem OpensAll.imp {P : Program} {ts : List TypeId} {Q Q' : List AV → Prop} (h : OpensAll P ts Q) (hq : ∀ xs, Q xs ↔ Q' xs) : OpensAll P ts Q' := by
  have e : Q = Q' := funext fun xs => propext (hq xs)
  rw [← e]; exact h
theorem oRSx {ts : List TypeId} {T : List AV → Prop} (h : OpensAll Tryz.prog ts T) : OpensAll Tryz.prog (31 :: 34 :: ts) fun xs => ∃ (r : Rm) (s : St) (zs : List AV), xs = rmA r :: stA s :: zs ∧ T zs := by
  refine OpensAll.imp (OpensAll.cons (P := Tryz.prog) (.inl (by kernel_rfl)) oRm (OpensAll.cons (.inl (by kernel_rfl)) oSt h)) fun xs => ?_
  have h1 : ∀ a, elemAV Tryz.prog 31 a = .agg a := fun a => elemAV_agg agg_31
  have h2 : ∀ a, elemAV Tryz.prog 34 a = .agg a := fun a => elemAV_agg agg_34
  constructor
  · rintro ⟨_, _, rfl, ⟨r, rfl⟩, _, _, rfl, ⟨s, rfl⟩, ht⟩
    exact ⟨r, s, _, by rw [h1, h2]; rfl, ht⟩
  · rintro ⟨r, s, zs, rfl, ht⟩
    exact ⟨_, _, by rw [h1]; rfl, ⟨r, rfl⟩, _, _, by rw [h2]; rfl, ⟨s, rfl⟩, ht⟩
theorem oTk : Opens Tryz.prog 45 fun xs => ∃ x : Tk, True ∧ xs = [.int x.kd, .int x.nu, .int x.ar] :=
  (Opens.struct Tryz.underlying45 (by kernel_rfl) (.cons oInt (.cons oInt (.cons oInt .nil)))).mono (by
    rintro xs ⟨_, _, rfl, ⟨a, rfl⟩, _, _, rfl, ⟨b, rfl⟩, _, _, rfl, ⟨c, rfl⟩, rfl⟩
    exact ⟨⟨a, b, c⟩, trivial, rfl⟩)
theorem oTks : Opens Tryz.prog 38 fun xs => ∃ l : List Tk, l.length ≤ maxLen ∧ xs = [.lst 3 (l.map tkA)] :=
  (Opens.sliceT (f := fun x : Tk => [AV.int x.kd, AV.int x.nu, AV.int x.ar]) (g := tkA) (W := fun _ => True) Tryz.underlying38 (by kernel_rfl) oTk 3 (by kernel_rfl) (by decide) (.inl (by kernel_rfl)) (fun _ => by unfold elemAV; rw [Go.Proofs.Tryz.agg_45]; rfl)).mono fun xs ⟨n, h, e⟩ => ⟨n, h.1, e⟩
theorem oL1 : OpensAll Tryz.prog [38] fun xs => ∃ l : List Tk, l.length ≤ maxLen ∧ xs = [.lst 3 (l.map tkA)] := by
  refine OpensAll.imp (OpensAll.cons (P := Tryz.prog) (.inr ⟨by kernel_rfl, by kernel_rfl⟩) oTks OpensAll.nil) fun xs => ?_
  constructor
  · rintro ⟨_, _, rfl, ⟨p, hp, rfl⟩, rfl⟩
    exact ⟨p, hp, by rw [elemAV_one agg_38]⟩
  · rintro ⟨p, hp, rfl⟩
    exact ⟨_, _, by rw [elemAV_one agg_38], ⟨p, hp, rfl⟩, rfl⟩
/-- a room, a state and tasks -/
theorem oRSL : OpensAll Tryz.prog [31, 34, 38] fun xs => ∃ (r : Rm) (s : St) (l : List Tk), l.length ≤ maxLen ∧ xs = [rmA r, stA s, .lst 3 (l.map tkA)] := by
  refine OpensAll.imp (oRSx oL1) fun xs => ?_
  constructor
  · rintro ⟨r, s, _, rfl, l, hl, rfl⟩; exact ⟨r, s, l, hl, rfl⟩
  · rintro ⟨r, s, l, hl, rfl⟩; exact ⟨r, s, _, rfl, l, hl, rfl⟩
end Go.Proofs.Tryz
