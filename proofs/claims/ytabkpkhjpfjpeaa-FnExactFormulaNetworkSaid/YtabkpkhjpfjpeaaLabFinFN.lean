/- Part of the proof of FnExactFormulaNetwork: that for every input the law answers true and leaves what it reads as it was. Conditions: none beyond the given statement. -/
import Derived.Test.YtabkpkhjpfjpeaaLabRowFN
import Derived.Test.YtabkpkhjpfjpeaaLabC28ToC36
set_option linter.all false
/- The law FnExactFormulaNetwork holds: what the program's FormulaNetwork returns is what the reference's returns, in memory of its own. Conditions: none. -/
namespace Go.Proofs.Ytabkpkhjpfjpeaa
theorem formulaNetwork_holds : Rows.FnExactFormulaNetworkSaid := fnExactFormulaNetwork.proved Go.Abs.law_FormulaNetwork
end Go.Proofs.Ytabkpkhjpfjpeaa
