/- Part of the proof of FnExactNewSession: that for every input the law answers true and leaves what it reads as it was. Conditions: none beyond the given statement. -/
import Derived.Test.YtabkpkhjpfjpeaaLabTab
import Derived.Test.YtabkpkhjpfjpeaaLabAevToRow
import Derived.KernelRfl
set_option linter.all false
/- A law of no arguments, by evaluation. -/
namespace Go.Abs
set_option maxRecDepth 100000
def isT : Option Out → Bool
  | some ⟨1, [.sc (.bool true)], _⟩ => true
  | _ => false
theorem t1 : isT (runN P T 300 (.fn F.wFnExactNewSession) [] []) = true := by kernel_rfl
end Go.Abs
