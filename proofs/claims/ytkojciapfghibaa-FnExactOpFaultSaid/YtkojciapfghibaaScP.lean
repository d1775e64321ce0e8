/- What the program's functions come to, in plain words. -/
import Derived.Test.YtkojciapfghibaaScS
set_option linter.unusedSimpArgs false
set_option linter.unusedVariables false
namespace Go.SC
open Go

/-- The fault of an operation. -/
def opFault (x : GOp) : Int :=
  if x.kind = 1 then (if x.n = 0 ∧ x.order.length = 0 ∧ x.equations.length = 0 then 0 else 1)
  else if x.kind = 2 then (if x.value = 0 ∧ x.n = 0 ∧ x.order.length = 0 ∧ x.equations.length = 0 then 0 else 1)
  else if x.kind = 3 then (if x.term.length = 0 ∧ x.value = 0 then 0 else 1)
  else if x.kind = 4 then (if x.term.length = 0 ∧ x.value = 0 ∧ x.order.length = 0 ∧ x.equations.length = 0 then 0 else 1)
  else if x.kind = 5 ∨ x.kind = 6 then (if x.term.length = 0 ∧ x.value = 0 ∧ x.n = 0 ∧ x.order.length = 0 ∧ x.equations.length = 0 then 0 else 1)
  else 1
end Go.SC
