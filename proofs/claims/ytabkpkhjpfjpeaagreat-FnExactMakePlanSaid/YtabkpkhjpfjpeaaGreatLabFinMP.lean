/- Part of the proof of FnExactMakePlan: that for every input the law answers true and leaves what it reads as it was. Conditions: none beyond the given statement. -/
import Derived.Test.YtabkpkhjpfjpeaaGreatLabRowMP
import Derived.Test.YtabkpkhjpfjpeaaGreatLabP12ToQ6
set_option linter.all false
/- The law FnExactMakePlan holds: the program's MakePlan answers what the reference's answers, leaves its arguments as they were and gives memory of its own. Conditions: none. -/
namespace Go.Proofs.YtabkpkhjpfjpeaaGreat
theorem makePlan_holds : Rows.FnExactMakePlanSaid := fnExactMakePlan.proved Go.Abs.law_MakePlan
end Go.Proofs.YtabkpkhjpfjpeaaGreat
