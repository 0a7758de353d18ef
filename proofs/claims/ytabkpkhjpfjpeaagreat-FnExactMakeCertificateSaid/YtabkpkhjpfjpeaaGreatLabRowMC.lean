/- Part of the proof of FnExactMakeCertificate: that for every input the law answers true and leaves what it reads as it was. Conditions: none beyond the given statement. -/
import Derived.Test.YtabkpkhjpfjpeaaGreatRows
import Derived.Test.YtabkpkhjpfjpeaaGreatLabAevToCtr
import Derived.Test.YtabkpkhjpfjpeaaGreatLabTab
import Derived.WalkKit
import Derived.ProofKit
import Derived.OpenShut
import Derived.ShutString
import Derived.ChangeOld
import Derived.Below
import Derived.SizedLaws
set_option linter.all false
/- The row of the law FnExactMakeCertificate: it holds if the law's contract does. -/
namespace Go.Proofs.YtabkpkhjpfjpeaaGreat.fnExactMakeCertificate
open Go.ChangeShapes Go.WideShapes Go.ChangeAt Go.RowKit
set_option linter.unusedVariables false
theorem own : ownKnob Tryz.prog.godebug = none := by kernel_rfl
theorem laidOut : laidOutB Tryz.prog = true := by kernel_rfl
theorem sound : Go.Abs.SndFn Tryz.prog (Go.Abs.run Tryz.prog Go.Abs.T) := Go.Abs.run_sound (by kernel_rfl) (by kernel_rfl)
theorem rec_ok : ([60] : List TypeId).all (fun t => Tryz.prog.readableRec t && decide (t < Tryz.prog.types.size)) = true := by kernel_rfl
set_option maxRecDepth 100000 in
theorem lifted (pure : Go.Abs.LawPure Tryz.prog (Go.Abs.run Tryz.prog Go.Abs.T) 7 [60]) (os : Os) (started : os.Started) (H : Type) (enc : TypeId × Value → H) :
    ReturnsInHanded {} Tryz.checked os 7 .any (Rows.fnExactMakeCertificateSpec.pre6 enc Tryz.prog Tryz.f7 Rows.fnExactMakeCertificateRow.domain false) (Rows.fnExactMakeCertificateSpec.post enc Tryz.prog Tryz.f7 false true false false) := by
  refine returnsInHanded_of_change_sized (C := Tryz.checked) own started (by kernel_rfl) Tryz.func7
    (ChangeSpec.witness6 (enc := enc) (C := Tryz.checked) false ⟨#[], #[.agg #[.slice none 0 0]], []⟩ 8 (by kernel_rfl) (by kernel_rfl) (by kernel_rfl) (by kernel_rfl)) ?_
  intro W base args ds gs before hval0 hW hcnd hsz0 _
  have hval : ∀ (j : Nat) t v, Tryz.f7.params[j]? = some t → args[j]? = some v → Value.okWide Tryz.prog W .any base t v := hval0
  have hW' := hW
  obtain ⟨p, q, hA0, hV, rfl, hfz, hnd⟩ := hW
  have hA : DataW.TrodAll enc Tryz.prog W 0 (fun _ => true) true Tryz.f7.params.toList args.toList ds p := hA0
  rw [Tryz.params7] at hA hval
  obtain ⟨rfl, rfl⟩ := trodVars_none hV
  have hval' : ∀ (j : Nat) t v, ([60] : List TypeId)[j]? = some t → args[j]? = some v → Value.okWide Tryz.prog W .any base t v := fun j t v h h' => hval j t v (by simpa using h) h'
  have hAA := hA
  obtain ⟨v0, vs0, d0, ds0, p0, q0, hargs, rfl, rfl, h0, r0⟩ := trodAll_cons hA
  obtain ⟨rfl, rfl, rfl⟩ := trodAll_nil r0
  refine (Go.Abs.law_walk sound (by kernel_rfl) pure hAA hval').mono fun e W' ⟨he, bel⟩ => ?_
  subst he
  exact ⟨_, rfl, _, _, _, [], _, [], hW', trodAll_mk1 (shut_bool Tryz.underlying4 _), Go.Abs.back_all laidOut bel _ _ _ _ (fun t ht => by
    have := List.all_eq_true.1 rec_ok t ht
    simpa using this) hAA, rfl, bel.frame _, fun h => by cases h⟩
theorem over (pure : Go.Abs.LawPure Tryz.prog (Go.Abs.run Tryz.prog Go.Abs.T) 7 [60]) : Rows.fnExactMakeCertificateRow.holds Tryz.pinned (OpenSpec.ofChange Rows.fnExactMakeCertificateSpec) :=
  OpenClaim.holds_of_wide 7 Tryz.f7 rfl rfl rfl rfl rfl rfl rfl ⟨rfl, rfl, rfl, rfl, rfl⟩ rfl rfl rfl rfl rfl (by kernel_rfl) Tryz.func7 (by kernel_rfl)
    (of_decide_eq_true (by kernel_rfl)) (by unfold Func.isWrapper; first | (rw [if_pos (by decide +kernel)]; kernel_rfl) | (rw [if_neg (by decide +kernel)]; exact ⟨rfl, rfl⟩))
    (fun os started H enc _ => lifted pure os started H enc)
/-- The row, of the law's contract. -/
theorem proved (pure : Go.Abs.LawPure Tryz.prog (Go.Abs.run Tryz.prog Go.Abs.T) 7 [60]) : Rows.FnExactMakeCertificateSaid := over pure
end Go.Proofs.YtabkpkhjpfjpeaaGreat.fnExactMakeCertificate
