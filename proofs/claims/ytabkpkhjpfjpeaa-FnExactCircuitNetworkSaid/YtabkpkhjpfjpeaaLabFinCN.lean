/- Part of the proof of FnExactCircuitNetwork: that for every input the law answers true and leaves what it reads as it was. Conditions: none beyond the given statement. -/
import Derived.Test.YtabkpkhjpfjpeaaLabRowCN
import Derived.Test.YtabkpkhjpfjpeaaLabC44ToC45
set_option linter.all false
/- The law FnExactCircuitNetwork holds: what the program's CircuitNetwork returns is what the reference's returns, in memory of its own. Conditions: none. -/
namespace Go.Proofs.Ytabkpkhjpfjpeaa
theorem circuitNetwork_holds : Rows.FnExactCircuitNetworkSaid := fnExactCircuitNetwork.proved Go.Abs.law_CircuitNetwork
end Go.Proofs.Ytabkpkhjpfjpeaa
