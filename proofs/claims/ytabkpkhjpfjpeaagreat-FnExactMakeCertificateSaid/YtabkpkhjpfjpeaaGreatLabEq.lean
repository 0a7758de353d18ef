/- Part of the proof of FnExactMakeCertificate: that for every input the law answers true and leaves what it reads as it was. Conditions: none beyond the given statement. -/
import Derived.Test.YtabkpkhjpfjpeaaGreatLabEq0
import Derived.Test.YtabkpkhjpfjpeaaGreatLabEq1
set_option linter.all false
/- All equations. -/
