/- Part of the proof of FnExactApplyPauli: that for every input the law answers true and leaves what it reads as it was. Conditions: none beyond the given statement. -/
import Derived.Test.YtabkpkhjpfjpeaaRows
import Derived.Test.YtabkpkhjpfjpeaaLabAevToCtr
import Derived.Test.YtabkpkhjpfjpeaaLabTab
import Derived.WalkKit
import Derived.ProofKit
import Derived.OpenShut
import Derived.ShutString
import Derived.ChangeOld
import Derived.Below
import Derived.SizedLaws
set_option linter.all false
/- The row of the law FnExactApplyPauli: it holds if the law's contract does. -/
namespace Go.Proofs.Ytabkpkhjpfjpeaa.fnExactApplyPauli
open Go.ChangeShapes Go.WideShapes Go.ChangeAt Go.RowKit
set_option linter.unusedVariables false
theorem own : ownKnob Try.prog.godebug = none := by kernel_rfl
theorem laidOut : laidOutB Try.prog = true := by kernel_rfl
theorem sound : Go.Abs.SndFn Try.prog (Go.Abs.run Try.prog Go.Abs.T) := Go.Abs.run_sound (by kernel_rfl) (by kernel_rfl)
theorem rec_ok : ([3, 23, 26] : List TypeId).all (fun t => Try.prog.readableRec t && decide (t < Try.prog.types.size)) = true := by kernel_rfl
set_option maxRecDepth 100000 in
theorem lifted (pure : Go.Abs.LawPure Try.prog (Go.Abs.run Try.prog Go.Abs.T) 3 [3, 23, 26]) (os : Os) (started : os.Started) (H : Type) (enc : TypeId × Value → H) :
    ReturnsInHanded {} Try.checked os 3 .any (Rows.fnExactApplyPauliSpec.pre6 enc Try.prog Try.f3 Rows.fnExactApplyPauliRow.domain false) (Rows.fnExactApplyPauliSpec.post enc Try.prog Try.f3 false true false false) := by
  refine returnsInHanded_of_change_sized (C := Try.checked) own started (by kernel_rfl) Try.func3
    (ChangeSpec.witness6 (enc := enc) (C := Try.checked) false ⟨#[], #[.int .i64 0, .agg #[.int .i64 0, .int .i64 0, .int .i64 0], .agg #[.slice none 0 0, .slice none 0 0, .slice none 0 0]], []⟩ 8 (by kernel_rfl) (by kernel_rfl) (by kernel_rfl) (by kernel_rfl)) ?_
  intro W base args ds gs before hval0 hW hcnd hsz0 _
  have hval : ∀ (j : Nat) t v, Try.f3.params[j]? = some t → args[j]? = some v → Value.okWide Try.prog W .any base t v := hval0
  have hW' := hW
  obtain ⟨p, q, hA0, hV, rfl, hfz, hnd⟩ := hW
  have hA : DataW.TrodAll enc Try.prog W 0 (fun _ => true) true Try.f3.params.toList args.toList ds p := hA0
  rw [Try.params3] at hA hval
  obtain ⟨rfl, rfl⟩ := trodVars_none hV
  have hval' : ∀ (j : Nat) t v, ([3, 23, 26] : List TypeId)[j]? = some t → args[j]? = some v → Value.okWide Try.prog W .any base t v := fun j t v h h' => hval j t v (by simpa using h) h'
  have hAA := hA
  obtain ⟨v0, vs0, d0, ds0, p0, q0, hargs, rfl, rfl, h0, r0⟩ := trodAll_cons hA
  obtain ⟨v1, vs1, d1, ds1, p1, q1, rfl, rfl, rfl, h1, r1⟩ := trodAll_cons r0
  obtain ⟨v2, vs2, d2, ds2, p2, q2, rfl, rfl, rfl, h2, r2⟩ := trodAll_cons r1
  obtain ⟨rfl, rfl, rfl⟩ := trodAll_nil r2
  refine (Go.Abs.law_walk sound (by kernel_rfl) pure hAA hval').mono fun e W' ⟨he, bel⟩ => ?_
  subst he
  exact ⟨_, rfl, _, _, _, [], _, [], hW', trodAll_mk1 (shut_bool Try.underlying4 _), Go.Abs.back_all laidOut bel _ _ _ _ (fun t ht => by
    have := List.all_eq_true.1 rec_ok t ht
    simpa using this) hAA, rfl, bel.frame _, fun h => by cases h⟩
theorem over (pure : Go.Abs.LawPure Try.prog (Go.Abs.run Try.prog Go.Abs.T) 3 [3, 23, 26]) : Rows.fnExactApplyPauliRow.holds Try.pinned (OpenSpec.ofChange Rows.fnExactApplyPauliSpec) :=
  OpenClaim.holds_of_wide 3 Try.f3 rfl rfl rfl rfl rfl rfl rfl ⟨rfl, rfl, rfl, rfl, rfl⟩ rfl rfl rfl rfl rfl (by kernel_rfl) Try.func3 (by kernel_rfl)
    (of_decide_eq_true (by kernel_rfl)) (by unfold Func.isWrapper; first | (rw [if_pos (by decide +kernel)]; kernel_rfl) | (rw [if_neg (by decide +kernel)]; exact ⟨rfl, rfl⟩))
    (fun os started H enc _ => lifted pure os started H enc)
/-- The row, of the law's contract. -/
theorem proved (pure : Go.Abs.LawPure Try.prog (Go.Abs.run Try.prog Go.Abs.T) 3 [3, 23, 26]) : Rows.FnExactApplyPauliSaid := over pure
end Go.Proofs.Ytabkpkhjpfjpeaa.fnExactApplyPauli
