/- Part of the proof of FnExactApplyPauli: that for every input the law answers true and leaves what it reads as it was. Conditions: none beyond the given statement. -/
import Derived.Test.YtabkpkhjpfjpeaaLabEq0
import Derived.Test.YtabkpkhjpfjpeaaLabEq1
set_option linter.all false
/- All equations. -/
