/- Part of the proof of FnExactNewSession: that for every input the law answers true and leaves what it reads as it was. Conditions: none beyond the given statement. -/
import Derived.Test.YtabkpkhjpfjpeaaLabRowNS
import Derived.Test.YtabkpkhjpfjpeaaLabEv1
set_option linter.all false
/- The law FnExactNewSession holds: it has no arguments, and the abstract interpreter, which is sound for the model, evaluates it to true. Conditions: none. -/
namespace Go.Abs
theorem isT_some {o : Option Out} (h : isT o = true) : ∃ H', o = some ⟨1, [.sc (.bool true)], H'⟩ := by
  unfold isT at h
  split at h
  · exact ⟨_, rfl⟩
  · cases h
end Go.Abs
namespace Go.Proofs.Ytabkpkhjpfjpeaa
theorem newSession_holds : Rows.FnExactNewSessionSaid := fnExactNewSession.proved (by
  obtain ⟨H', h⟩ := Go.Abs.isT_some Go.Abs.t1
  exact ⟨H', Go.Abs.run_some.2 ⟨300, h⟩⟩)
end Go.Proofs.Ytabkpkhjpfjpeaa
