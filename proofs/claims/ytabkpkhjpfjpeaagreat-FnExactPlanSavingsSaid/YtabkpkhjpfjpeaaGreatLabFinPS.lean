/- Part of the proof of FnExactPlanSavings: that for every input the law answers true and leaves what it reads as it was. Conditions: none beyond the given statement. -/
import Derived.Test.YtabkpkhjpfjpeaaGreatLabRowPS
import Derived.Test.YtabkpkhjpfjpeaaGreatLabP13ToQ3
set_option linter.all false
/- The law FnExactPlanSavings holds: the program's PlanSavings answers what the reference's answers, and leaves its arguments as they were. Conditions: none. -/
namespace Go.Proofs.YtabkpkhjpfjpeaaGreat
theorem planSavings_holds : Rows.FnExactPlanSavingsSaid := fnExactPlanSavings.proved Go.Abs.law_PlanSavings
end Go.Proofs.YtabkpkhjpfjpeaaGreat
