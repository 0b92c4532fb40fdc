/- The abstract machine: which equations evaluate it. -/
import Derived.Test.YtljchlkmalidnaaVgY
import Derived.IntWalk
set_option linter.all false
set_option linter.unusedVariables false
namespace Go.Vg
theorem getD_map' {α : Type} (f : α → AV) (l : List α) (i : Nat) (d : α) : (l.map f).getD i (f d) = f (l.getD i d) := by
  simp only [List.getD_eq_getElem?_getD, List.getElem?_map]
  cases l[i]? <;> rfl
theorem getD_int (l : List Int) (i : Nat) : (l.map AV.int).getD i (.val (.int .i64 0)) = .val (.int .i64 (l.getD i 0)) := getD_map' AV.int l i 0
theorem getD_bool (l : List Bool) (i : Nat) : (l.map AV.bool).getD i (.val (.bool false)) = .val (.bool (l.getD i false)) := getD_map' AV.bool l i false
theorem getD_str (l : List ByteArray) (i : Nat) : (l.map AV.str).getD i (.val (.string .empty)) = .val (.string (l.getD i .empty)) := getD_map' AV.str l i .empty
theorem getD_byte (l : List UInt8) (i : Nat) : (l.map AV.byte).getD i (.val (.int .u8 0)) = .val (.int .u8 ((l.getD i 0).toNat : Int)) := getD_map' AV.byte l i 0
theorem getD_ints (l : List (List Int)) (i : Nat) : (l.map AV.ints).getD i (.lst 1 []) = AV.ints (l.getD i []) := getD_map' AV.ints l i []
theorem set_int (l : List Int) (i : Nat) (x : Int) : (l.map AV.int).set i (.val (.int .i64 x)) = (l.set i x).map AV.int := (List.map_set (f := AV.int)).symm
theorem set_bool (l : List Bool) (i : Nat) (x : Bool) : (l.map AV.bool).set i (.val (.bool x)) = (l.set i x).map AV.bool := (List.map_set (f := AV.bool)).symm
theorem set_byte (l : List UInt8) (i : Nat) (x : UInt8) : (l.map AV.byte).set i (.val (.int .u8 (x.toNat : Int))) = (l.set i x).map AV.byte := (List.map_set (f := AV.byte)).symm
theorem app_int (l : List Int) (x : Int) : l.map AV.int ++ [.val (.int .i64 x)] = (l ++ [x]).map AV.int := by simp
theorem app_bool (l : List Bool) (x : Bool) : l.map AV.bool ++ [.val (.bool x)] = (l ++ [x]).map AV.bool := by simp
theorem app_str (l : List ByteArray) (x : ByteArray) : l.map AV.str ++ [.val (.string x)] = (l ++ [x]).map AV.str := by simp
theorem app_byte (l : List UInt8) (x : UInt8) : l.map AV.byte ++ [.val (.int .u8 (x.toNat : Int))] = (l ++ [x]).map AV.byte := by simp
theorem app_ints (l : List (List Int)) (x : List Int) : l.map AV.ints ++ [.lst 1 (x.map AV.int)] = (l ++ [x]).map AV.ints := by simp
theorem app_map {α : Type} (f : α → AV) (l l' : List α) : l.map f ++ l'.map f = (l ++ l').map f := by simp
theorem take_map' {α : Type} (f : α → AV) (l : List α) (n : Nat) : (l.map f).take n = (l.take n).map f := List.map_take.symm
theorem drop_map' {α : Type} (f : α → AV) (l : List α) (n : Nat) : (l.map f).drop n = (l.drop n).map f := List.map_drop.symm
theorem repl_int (n : Nat) : List.replicate n (AV.val (.int .i64 0)) = (List.replicate n (0 : Int)).map AV.int := by simp
theorem repl_bool (n : Nat) : List.replicate n (AV.val (.bool false)) = (List.replicate n false).map AV.bool := by simp
theorem okL_int (k : Nat) (l : List Int) : okL k (l.map AV.int) = True := eq_true (okL_map fun _ => trivial)
theorem okL_bool (k : Nat) (l : List Bool) : okL k (l.map AV.bool) = True := eq_true (okL_map fun _ => trivial)
theorem okL_str (k : Nat) (l : List ByteArray) : okL k (l.map AV.str) = True := eq_true (okL_map fun _ => trivial)
theorem okL_byte (k : Nat) (l : List UInt8) : okL k (l.map AV.byte) = True := eq_true (okL_map fun _ => trivial)
theorem okL_ints (k : Nat) (l : List (List Int)) : okL k (l.map AV.ints) = True := eq_true (okL_map fun _ => ok_ints k _)
theorem plainL_map {α : Type} {f : α → AV} {l : List α} (h : ∀ x, (f x).plain) : plainL (l.map f) := by
  induction l with
  | nil => trivial
  | cons x l ih => exact ⟨h x, ih⟩
theorem plainL_int (l : List Int) : plainL (l.map AV.int) = True := eq_true (plainL_map fun _ => trivial)
theorem plainL_bool (l : List Bool) : plainL (l.map AV.bool) = True := eq_true (plainL_map fun _ => trivial)
theorem plainL_byte (l : List UInt8) : plainL (l.map AV.byte) = True := eq_true (plainL_map fun _ => trivial)
theorem shiftL_int (k : Nat) (l : List Int) : shiftL k (l.map AV.int) = l.map AV.int := shiftL_plain k _ (plainL_map fun _ => trivial)
theorem shiftL_bool (k : Nat) (l : List Bool) : shiftL k (l.map AV.bool) = l.map AV.bool := shiftL_plain k _ (plainL_map fun _ => trivial)
theorem shiftL_byte (k : Nat) (l : List UInt8) : shiftL k (l.map AV.byte) = l.map AV.byte := shiftL_plain k _ (plainL_map fun _ => trivial)
theorem rows1 (ver sz : Nat) (l : List AV) (h : plainL l) : rowsPlain [⟨ver, .row sz l⟩] := by
  intro e he
  have : e = ⟨ver, .row sz l⟩ := by simpa using he
  subst this; exact ⟨sz, l, rfl, h⟩
theorem rows1_int (ver sz : Nat) (l : List Int) : rowsPlain [⟨ver, .row sz (l.map AV.int)⟩] = True := eq_true (rows1 _ _ _ (plainL_map fun _ => trivial))
theorem rows1_bool (ver sz : Nat) (l : List Bool) : rowsPlain [⟨ver, .row sz (l.map AV.bool)⟩] = True := eq_true (rows1 _ _ _ (plainL_map fun _ => trivial))
theorem rows1_byte (ver sz : Nat) (l : List UInt8) : rowsPlain [⟨ver, .row sz (l.map AV.byte)⟩] = True := eq_true (rows1 _ _ _ (plainL_map fun _ => trivial))
theorem rowsPlain_nil : rowsPlain [] = True := eq_true fun e he => (by cases he)
theorem rowsPlain_cons (v sz : Nat) (l : List AV) (m : Mem) : rowsPlain (⟨v, .row sz l⟩ :: m) = (plainL l ∧ rowsPlain m) := by
  apply propext
  constructor
  · intro h
    obtain ⟨sz', l', e, hp⟩ := h ⟨v, .row sz l⟩ (by simp)
    cases e
    exact ⟨hp, fun e he => h e (List.mem_cons_of_mem _ he)⟩
  · rintro ⟨h1, h2⟩ e he
    rcases List.mem_cons.1 he with rfl | he
    · exact ⟨sz, l, rfl, h1⟩
    · exact h2 e he
attribute [push_cast] rowsPlain_nil rowsPlain_cons
theorem wU {x : Int} (h1 : 0 ≤ x) (h2 : x ≤ 255) : IntKind.u8.wrap x = x := by
  have e1 : IntKind.u8.bits = 8 := rfl
  have e2 : IntKind.u8.signed = false := rfl
  simp [IntKind.wrap, e1, e2]; omega
theorem wC (a b : Int) : a + b - b = a := Int.add_sub_cancel a b
theorem wI {x : Int} (h1 : -9223372036854775808 ≤ x) (h2 : x ≤ 9223372036854775807) : IntKind.i64.wrap x = x := IntWalk.i64_in _ ⟨h1, h2⟩

theorem Le.of {s s' : S} (h1 : s.m = s'.m) (h2 : ∀ p ∈ s'.t, look s.t p.1 = p.2) (h3 : s.n = s'.n) (h4 : s.d = s'.d) : Le s s' := ⟨h2, h1, h3, h4⟩
/-- what an operation asks -/
theorem evT {α : Type _} {a b : α} (h : a = b := by (try simp (disch := omega) only [wI, wU, wC]) <;> exact rfl) : a = b := h
theorem Wp.rn {P : Program} {r : Option Nat} {Q : Exit → S → Prop} {s : S} {id : Nat} {ops : List Oper} {gds : List (Option Nat)} (h : Run P gds ops (Q .normal) s) (hg : ops.map (·.dst) = gds := by (dsimp only [List.map] <;> exact rfl)) (hB : gds.all (dstB s.n) = true := by exact rfl) : Wp P r (.region id ops.toArray false) Q s := Wp.run hg hB h
theorem sT {p : Prop} (h : p := by (first | trivial | omega | (intro hg; (try simp only [hg, eq_self, true_and, and_true]); first | omega | (refine ⟨?_, ?_⟩ <;> omega)) | (refine ⟨?_, ?_⟩ <;> omega) | (intro h; simpa using h) | (intros; simp_all; done) | (intros; simp_all; omega))) : p := h
theorem toNat_succ (k : Nat) : ((k : Int) + 1).toNat = k + 1 := by omega
theorem toNat_pred (k : Nat) : ((k : Int) - 1).toNat = k - 1 := by omega
attribute [push_cast] toNat_succ toNat_pred Int.add_sub_cancel
theorem take_take_self {α : Type} (l : List α) (k : Nat) : (l.take k).take k = l.take k := by rw [List.take_take, Nat.min_self]
attribute [push_cast] take_take_self
theorem ite_min (a b : Int) : (if b < a then b else a) = min a b := by split <;> omega
theorem ite_max (a b : Int) : (if a < b then b else a) = max a b := by split <;> omega
attribute [push_cast] ite_min ite_max
attribute [push_cast] aggBin eqA eqA1 look evo cst unopt pickA intBin shBin strBin binA unA convA idxA loadA fieldAddrA fieldA indexA loOf hiOf cutL sliceA minA maxA callA ev stepA gval
attribute [push_cast] AV.cells Op.needs Op.operands Call.operands putA nextA abnA prepV prepF oks fnOf evoG gvalO gOk optG view view1 view2 okL AV.ok AV.plain plainL AV.mine AV.shift shiftL
attribute [push_cast] copyA putR lookA updA mpT keyV keyVs keysOk eqKey_int eqKey_str
attribute [push_cast] buildA fillA unE unV bindP roundQ kill
attribute [push_cast] storeA boxA makeA appA appA0 appZ effA rowOf srcOk notId updE AV.one AV.flat Value.oneCell' bldA partsOf res1 resL packRes
attribute [push_cast] List.toList_toArray List.map_cons List.map_nil Option.map_some Option.map_none List.append_nil List.nil_append List.cons_append Option.bind_some id
attribute [push_cast] List.getElem?_cons_zero List.getElem?_cons_succ List.length_cons List.length_nil List.set_cons_zero List.set_cons_succ List.length_map List.length_replicate List.length_set
attribute [push_cast] List.drop_zero List.take_length List.getD_cons_zero List.getD_cons_succ List.drop_succ_cons List.take_succ_cons List.take_zero List.drop_nil List.take_nil
attribute [push_cast] getD_int getD_bool getD_str getD_byte getD_ints set_int set_bool set_byte app_int app_bool app_str app_byte app_ints app_map take_map' drop_map' repl_int repl_bool
attribute [push_cast] okL_int okL_bool okL_str okL_byte okL_ints plainL_int plainL_bool plainL_byte shiftL_int shiftL_bool shiftL_byte rows1_int rows1_bool rows1_byte
attribute [push_cast] decide_eq_true_eq decide_eq_false_iff_not Bool.and_eq_true Bool.or_eq_true Bool.not_eq_true' Bool.not_eq_false' Bool.and_eq_false_iff Bool.or_eq_false_iff
attribute [push_cast] Nat.le_refl Int.le_refl Kind.shift decide_true decide_false Bool.not_not Kind.ok nilOk isSl and_true true_and and_self forall_const List.mem_cons List.not_mem_nil or_false forall_eq_or_imp forall_eq imp_self implies_true Nat.add_zero Nat.zero_add not_false_eq_true ne_eq Bool.not_true Bool.not_false Bool.and_true Bool.true_and if_true if_false Int.toNat_natCast Int.natAbs_natCast Bool.false_eq_true
end Go.Vg
