/- Part of the proof of FnExactSessionOk: that for every input the law answers true and leaves what it reads as it was. Conditions: none beyond the given statement. -/
import Derived.Test.YtabkpkhjpfjpeaaLabRowSO
import Derived.Test.YtabkpkhjpfjpeaaLabC50ToC55
set_option linter.all false
/- The law FnExactSessionOk holds: the program's SessionOk answers what the reference's answers, and leaves its argument as it was. Conditions: none. -/
namespace Go.Proofs.Ytabkpkhjpfjpeaa
theorem sessionOk_holds : Rows.FnExactSessionOkSaid := fnExactSessionOk.proved Go.Abs.law_SessionOk
end Go.Proofs.Ytabkpkhjpfjpeaa
