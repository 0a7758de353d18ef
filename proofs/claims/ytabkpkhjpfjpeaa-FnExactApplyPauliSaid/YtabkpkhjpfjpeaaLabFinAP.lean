/- Part of the proof of FnExactApplyPauli: that for every input the law answers true and leaves what it reads as it was. Conditions: none beyond the given statement. -/
import Derived.Test.YtabkpkhjpfjpeaaLabRowAP
import Derived.Test.YtabkpkhjpfjpeaaLabR33
set_option linter.all false
/- The law FnExactApplyPauli holds: on every input that the law reads, the implementation applies an operator to a state as the reference does,
   the arguments stay as they were and the state that is made is the caller's own. Conditions: none. -/
namespace Go.Proofs.Ytabkpkhjpfjpeaa
theorem applyPauli_holds : Rows.FnExactApplyPauliSaid := fnExactApplyPauli.proved Go.Abs.law_ApplyPauli
end Go.Proofs.Ytabkpkhjpfjpeaa
