/- The abstract machine, part Ea: operations at known values, with their conditions decided; they are made to be run by the kernel. -/
import Derived.Test.YtcpmcebdolcldaaVgV
import Derived.Test.YtcpmcebdolcldaaVgY
set_option linter.all false
set_option linter.unusedVariables false
namespace Go.Vg
variable {P : Program}

/-! operations on numbers and texts -/
/-! operations on memory that only read -/
def wideB (P : Program) (kt : TypeId) : Bool := match P.underlying kt with
  | some (.array _ _) | some (.struct _) => true
  | _ => false
/-- a type by whose values a map may be keyed -/
def kdB (P : Program) (kt : TypeId) : Bool :=
  match uk P kt with
  | .int _ => true
  | .string => true
  | _ => match wideB P kt, Nat.ble (kt + 1) P.types.size, P.keyTypeAt 20 kt with
    | true, true, true => laidOutB P
    | _, _, _ => false
theorem kdB_ok {kt : TypeId} (h : kdB P kt = true) : Maps.Keyed P kt := by
  unfold kdB at h
  split at h
  · rename_i k hk; exact Maps.int_keyed (uk_int hk)
  · rename_i hk; exact Maps.string_keyed (uk_string hk)
  · split at h
    · rename_i h1 h2 h3
      rw [Nat.ble_eq] at h2
      exact Maps.Keyed.of_law (deep_law_laid h (m := 20) (by omega) h2 h3 (by unfold wideB at h1; split at h1 <;> simp_all))
    · cases h
end Go.Vg
