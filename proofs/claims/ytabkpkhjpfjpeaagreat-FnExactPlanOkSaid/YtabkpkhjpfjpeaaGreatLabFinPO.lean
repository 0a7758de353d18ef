/- Part of the proof of FnExactPlanOk: that for every input the law answers true and leaves what it reads as it was. Conditions: none beyond the given statement. -/
import Derived.Test.YtabkpkhjpfjpeaaGreatLabRowPO
import Derived.Test.YtabkpkhjpfjpeaaGreatLabP13ToQ3
set_option linter.all false
/- The law FnExactPlanOk holds: the program's PlanOk answers what the reference's answers, and leaves its arguments as they were. Conditions: none. -/
namespace Go.Proofs.YtabkpkhjpfjpeaaGreat
theorem planOk_holds : Rows.FnExactPlanOkSaid := fnExactPlanOk.proved Go.Abs.law_PlanOk
end Go.Proofs.YtabkpkhjpfjpeaaGreat
