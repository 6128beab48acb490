/- Small numbers are not wrapped. No conditions but those stated. -/
import Derived.Test.YtkmpajdiedpfhaaOrd3
namespace Go.Proofs.Ytkmpajdiedpfhaa
open Go.ChangeShapes Go.WideShapes Go.ChangeAt Go.RowKit Go.Joins
set_option linter.unusedVariables false
set_option linter.unusedSimpArgs false
namespace Hist
theorem wrap_small (a : Nat) (h : a ≤ 1000) : IntKind.i64.wrap (a : Int) = (a : Int) := by
  simp [IntKind.wrap, IntKind.signed, IntKind.bits]
  omega
theorem wrap64_small (a : Nat) (h : a ≤ 1000) : wrap64 (a : Int) = (a : Int) := IntWalk.wrap64_in _ (by omega)
end Hist
end Go.Proofs.Ytkmpajdiedpfhaa
