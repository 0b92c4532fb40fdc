/- The statement ResetOrders, its card: for every input the law's function returns true, and its arguments read as before. No condition beyond the given row's. -/
import Derived.Test.YtjhljokghikamaaGreatDoorCards
import Derived.Test.YtjhljokghikamaaGreatDoorTie
import Derived.Test.YtjhljokghikamaaGreatDoorVgR76J
import Derived.Test.YtjhljokghikamaaGreatDoorVgR76J
import Derived.WalkKit
import Derived.ProofKit
import Derived.Deep.DeepHandedRow
import Derived.Deep.DeepWitnessRowRef
import Derived.Lib.LaidTab
set_option linter.all false
namespace Go.Proofs.YtjhljokghikamaaGreatDoor.resetOrders
open Go.ChangeShapes Go.WideShapes Go.ChangeAt Go.RowKit Go.Vg
theorem own : ownKnob Tryz.prog.godebug = none := by kernel_rfl
theorem e3 : (Rows.laid_internal_strconv_uint64pow10 : DataW Unit) = Lib.tabData .u64 Lib.pow10Tab := by kernel_rfl
theorem e4 : (Rows.laid_padlock_room_reserved : DataW Unit) = .slice (rsvd.map fun s => .lit (.string s.data.toList)) [] := by kernel_rfl
theorem gd {W : World} (h : laidMetH Tryz.prog Rows.resetOrdersRow.laid W) : Gd XN W [] := by
 have h2 : laidMet Tryz.prog [("math/bits.deBruijn32tab", Rows.laid_math_bits_deBruijn32tab), ("math/bits.deBruijn64tab", Rows.laid_math_bits_deBruijn64tab), ("internal/strconv.uint64pow10", Rows.laid_internal_strconv_uint64pow10), ("padlock/room.reserved", Rows.laid_padlock_room_reserved)] W := h
 rw [e3, e4] at h2
 exact Go.Proofs.Tryz.gd_laid h2
def ints : DataW Unit → List Value
 | .agg l => l.map fun
  | .lit (.int k n) => .int k n
  | _ => .nilFunc
 | _ => []
def setC (cs : List Value) : Obj → Obj
 | .cells _ t frozen => .cells cs.toArray t frozen
 | o => o
noncomputable def laidWorld (os : Os) : World :=
 { World.holding Tryz.prog os ⟨#[], #[], []⟩ with heap := (((((World.holding Tryz.prog os ⟨#[], #[], []⟩).heap.modify 0 (setC pow10V)).modify 1 (setC [.slice (some ⟨9, 0, none⟩) 10 10])).modify 2 (setC (ints Rows.laid_math_bits_deBruijn32tab))).modify 3 (setC (ints Rows.laid_math_bits_deBruijn64tab))).push (.cells (rsvd.map Value.string).toArray 9 (0, 0)) }
theorem laid_met (os : Os) : laidMet Tryz.prog Rows.resetOrdersRow.laid ((laidWorld os).forCall (fun _ _ => 0) ⟨#[], #[.agg #[.slice none 0 0, .slice none 0 0, .slice none 0 0, .slice none 0 0, .slice none 0 0, .slice none 0 0, .int .i64 0, .slice none 0 0], .agg #[.slice none 0 0, .slice none 0 0, .slice none 0 0]], []⟩).memory :=
 laidMet_of_run' 8 (by kernel_rfl) (by kernel_rfl)
theorem reads (os : Os) {H : Type} (enc : TypeId × Value → H) : ∃ places, DataW.whole enc Tryz.prog ((laidWorld os).forCall (fun _ _ => 0) ⟨#[], #[.agg #[.slice none 0 0, .slice none 0 0, .slice none 0 0, .slice none 0 0, .slice none 0 0, .slice none 0 0, .int .i64 0, .slice none 0 0], .agg #[.slice none 0 0, .slice none 0 0, .slice none 0 0]], []⟩).memory Tryz.f12.params.toList Rows.resetOrdersSpec.vars false #[.agg #[.slice none 0 0, .slice none 0 0, .slice none 0 0, .slice none 0 0, .slice none 0 0, .slice none 0 0, .int .i64 0, .slice none 0 0], .agg #[.slice none 0 0, .slice none 0 0, .slice none 0 0]].toList 16 = some ([.agg [.nil, .nil, .nil, .nil, .nil, .nil, .lit (.int .i64 0), .nil], .agg [.nil, .nil, .nil]], [], places) :=
 ⟨[], by kernel_rfl⟩
set_option maxRecDepth 100000 in
theorem lifted (os : Os) (started : os.Started) (H : Type) (enc : TypeId × Value → H) (F : Stop.Interp) :
  ReturnsInHanded {} Tryz.checked os 12 .any ((OpenSpec.ofChange Rows.resetOrdersSpec).preRow enc Tryz.prog Tryz.f12 Rows.resetOrdersRow.domain false Rows.resetOrdersRow.laid) (((OpenSpec.ofChange Rows.resetOrdersSpec).at F).post enc Tryz.prog Tryz.f12 false true false false) := by
 obtain ⟨places, hx⟩ := reads os enc
 refine returnsInHanded_of_row (C := Tryz.checked) (s := OpenSpec.ofChange Rows.resetOrdersSpec) own started (by kernel_rfl) Tryz.func12
  (witness_row_atRef (enc := enc) (C := Tryz.checked) false (laidWorld os) #[.agg #[.slice none 0 0, .slice none 0 0, .slice none 0 0, .slice none 0 0, .slice none 0 0, .slice none 0 0, .int .i64 0, .slice none 0 0], .agg #[.slice none 0 0, .slice none 0 0, .slice none 0 0]] rfl (by kernel_rfl) (by kernel_rfl) (by kernel_rfl)
   (OpenSpec.preRow_of_cond 16 hx (by kernel_rfl) (fun k hk => by cases hk) (by kernel_rfl) (laid_met os))) ?_
 intro W base args ds gs before hval hW _ _ _ hL _ _
 refine law_contract (tb := 4) (by kernel_rfl) (by rw [Tryz.params12]; decide +kernel) rfl ?_ (by kernel_rfl) Tryz.underlying4 (Q := _) (by
  rw [Tryz.params12]
  exact Go.Proofs.Tryz.oRS) ?_ H enc W base args ds gs before hval hW (gd hL)
 ·intro H ds hds
  rw [Tryz.params12] at hds
  match ds, hds with
  | [_, _], _ => rfl
 ·rintro xs ⟨r, s, rfl⟩
  exact Go.Proofs.Tryz.law_ResetOrders r s
theorem said : Rows.ResetOrdersSaid :=
 OpenClaim.holds_of_cond 12 Tryz.f12 rfl rfl rfl rfl rfl rfl rfl ⟨rfl, rfl, rfl, rfl, rfl⟩ rfl rfl rfl rfl rfl (by kernel_rfl) Tryz.func12 (by kernel_rfl)
  (of_decide_eq_true (by kernel_rfl)) (by unfold Func.isWrapper; first | (rw [if_pos (by decide +kernel)]; kernel_rfl) | (rw [if_neg (by decide +kernel)]; exact ⟨rfl, rfl⟩))
  (fun os started H enc _ F => by rw [OpenClaim.pre_eq_preRow]; exact lifted os started H enc F)
theorem plain (f : FuncId) (fn : Func) (hf : Tryz.pinned.checked.prog.funcNamed "padlock/padlocklaw09.ResetOrders" = some f) (hfn : Tryz.pinned.checked.prog.funcs[f]? = some fn) :
  false = Tryz.pinned.checked.prog.looks [] ∧ ∀ (j : Nat) t, fn.params[j]? = some t → Tryz.pinned.checked.prog.wantsStandIn t = false := by
 obtain rfl : f = 12 := Option.some.inj ((show Tryz.prog.funcNamed "padlock/padlocklaw09.ResetOrders" = some 12 by kernel_rfl).symm.trans hf) |>.symm
 obtain rfl : fn = Tryz.f12 := (Option.some.inj (Tryz.func12.symm.trans hfn)).symm
 refine ⟨by kernel_rfl, fun j t ht => ?_⟩
 rw [Tryz.params12] at ht
 have hm : t ∈ ([31, 34] : List Nat) := by simpa using Array.mem_of_getElem? ht
 have hall : ([31, 34] : List Nat).all (fun t => !Tryz.prog.wantsStandIn t) = true := by kernel_rfl
 have hw : Tryz.prog.wantsStandIn t = false := by simpa using List.all_eq_true.1 hall t hm
 exact hw
theorem proved : Rows.ResetOrdersCardSaid :=
 Claim7.holds_tied_plain_at .later [] _ _ _ _ said (fun _ h => by cases h) (by kernel_rfl) (fun _ h => by cases h) resetOrders_row_tie rfl ⟨rfl, rfl⟩ (by kernel_rfl) rfl plain (by kernel_rfl)
end Go.Proofs.YtjhljokghikamaaGreatDoor.resetOrders
