/- A part of the proof of StoreLends: contracts of functions, with plain laws that they need. -/
import Derived.Test.YtljchlkmalidnaaVgVe
import Derived.Test.YtljchlkmalidnaaVgY17
import Derived.Test.YtljchlkmalidnaaVgY20
import Derived.Test.YtljchlkmalidnaaVgYL
import Derived.Test.YtljchlkmalidnaaVgY0
set_option linter.all false
set_option linter.unusedVariables false
set_option linter.unusedSimpArgs false
set_option maxHeartbeats 8000000
namespace Go.Proofs.Try
open Go.Vg

theorem VwL.selfs' {m : Mem} : ∀ {xs : List AV}, okL 0 xs → VwL m xs xs
  | [], _ => .nil
  | x :: xs, h => .cons (.self h.1) (VwL.selfs' h.2)
theorem Vw.oln {m : Mem} {id ver : Nat} {l : List Ln} {l' : List AV} (n : Nat) (hn : n = l.length) (hl : l' = l.map lnA) (hm : m[id]? = some ⟨ver, .row 5 l'⟩) : Vw m (.osl id ver 0 n) (.lst 5 (l.map lnA)) := by
  subst hn hl
  refine .osl hm (by simp) (by omega) ?_
  have e : ((l.map lnA).drop 0).take l.length = l.map lnA := by simp [List.take_of_length_le]
  rw [e]
  exact VwL.selfs' (by simp only [push_cast])
end Go.Proofs.Try
