/- Part of the proof of FnExactMakeCertificate: that for every input the law answers true and leaves what it reads as it was. Conditions: none beyond the given statement. -/
import Derived.Test.YtabkpkhjpfjpeaaGreatLabRowMC
import Derived.Test.YtabkpkhjpfjpeaaGreatLabC55ToR18
set_option linter.all false
/- The law FnExactMakeCertificate holds: on every input that the law reads, the implementation and the reference make the same certificate,
   the arguments stay as they were and the certificate is the caller's own. Conditions: none. -/
namespace Go.Proofs.YtabkpkhjpfjpeaaGreat
theorem makeCertificate_holds : Rows.FnExactMakeCertificateSaid := fnExactMakeCertificate.proved Go.Abs.law_MakeCertificate
end Go.Proofs.YtabkpkhjpfjpeaaGreat
