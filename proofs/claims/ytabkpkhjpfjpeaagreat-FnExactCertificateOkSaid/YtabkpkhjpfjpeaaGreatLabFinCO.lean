/- Part of the proof of FnExactCertificateOk: that for every input the law answers true and leaves what it reads as it was. Conditions: none beyond the given statement. -/
import Derived.Test.YtabkpkhjpfjpeaaGreatLabRowCO
import Derived.Test.YtabkpkhjpfjpeaaGreatLabR15ToR16
set_option linter.all false
/- The law FnExactCertificateOk holds: on every input that the law reads, the implementation and the reference give the same answer
   and leave their arguments as they were. Conditions: none. -/
namespace Go.Proofs.YtabkpkhjpfjpeaaGreat
theorem certificateOk_holds : Rows.FnExactCertificateOkSaid := fnExactCertificateOk.proved Go.Abs.law_CertificateOk
end Go.Proofs.YtabkpkhjpfjpeaaGreat
