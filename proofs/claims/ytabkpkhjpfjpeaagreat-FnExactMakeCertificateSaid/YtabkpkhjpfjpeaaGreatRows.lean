/-
  No cell of these rows narrows 'for every input' (looked for: loops, veiled, ifaces, maps, wideKeys, modest, calm, conditions, laid).
  DERIVED. THE GIVEN ROWS OF THIS SEAT. 5 by the template 'for every input the law returns true; each argument reads behind the call as it read before'; 0 by the template 'total and deterministic' (their statements: YtabkpkhjpfjpeaaGreatTotals.lean).
  GIVEN WITH THE SEED: the statements are not yours to turn. If you find one false, say at which input.
  Laid BY PROGRAM, IN A SANDBOX (cutbox-rows.mjs): the forced cells as the released guide's own fill.sh prints them over the translation 8d1c70ae23f41ca2… (all of the seat's roots in one cut). By AI agents, Wed Nov 11 2026. No macro, syntax, notation, axiom, sorry.
-/
import Derived.Test.YtabkpkhjpfjpeaaGreatChecked
import GoSem.Claim
import GoSem.ClaimJoined
import GoSem.ClaimMapViews
import Derived.JoinedTies
import Derived.KernelRfl
namespace Go.Proofs.YtabkpkhjpfjpeaaGreat
/- THE CELL 'sum', in the pinned program and in every row, IS THE sha256 OF THE DUMP (.gsa) THAT YtabkpkhjpfjpeaaGreatProg.lean LOADS. Nothing in Lean hashes anything: it is a label: what it is worth is what the hold of that sum in a sandbox is worth. -/
noncomputable def Tryz.pinned : Pinned := { name := "ytabkpkhjpfjpeaagreat", sum := "8d1c70ae23f41ca26c06e384ef8df44907e805b8ec044f6f7f7339955d838fe7", checked := Tryz.checked }
namespace Rows
def none {H : Type} : Left H := { results := [], args := [] }

/-- 'laws.FnExactPlanOk': WHATEVER THE INPUT: true; the input reads as it did. -/
def fnExactPlanOkSpec : ChangeSpec := { name := "fnExactPlanOk", fn := fun _ => fun
  | [d1, d2] => { results := [.lit (.bool true)], args := [d1, d2] }
  | _ => none }
def fnExactPlanOkRow : OpenClaim := { program := "ytabkpkhjpfjpeaagreat", sum := "8d1c70ae23f41ca26c06e384ef8df44907e805b8ec044f6f7f7339955d838fe7", func := "loop.example/g03211/laws.FnExactPlanOk", spec := "fnExactPlanOk", apart := false }
def FnExactPlanOkSaid : Prop := fnExactPlanOkRow.holds Tryz.pinned (OpenSpec.ofChange fnExactPlanOkSpec)

/-- ITS FALSE NEIGHBOUR: 'it returns false'. Refute it at one input. -/
def fnExactPlanOkWrong : ChangeSpec := { name := "fnExactPlanOk", fn := fun _ => fun
  | [d1, d2] => { results := [.lit (.bool false)], args := [d1, d2] }
  | _ => none }
def FnExactPlanOkWrongFalsely : Prop := fnExactPlanOkRow.holds Tryz.pinned (OpenSpec.ofChange fnExactPlanOkWrong)

/-- 'laws.FnExactPlanSavings': WHATEVER THE INPUT: true; the input reads as it did. -/
def fnExactPlanSavingsSpec : ChangeSpec := { name := "fnExactPlanSavings", fn := fun _ => fun
  | [d1, d2] => { results := [.lit (.bool true)], args := [d1, d2] }
  | _ => none }
def fnExactPlanSavingsRow : OpenClaim := { program := "ytabkpkhjpfjpeaagreat", sum := "8d1c70ae23f41ca26c06e384ef8df44907e805b8ec044f6f7f7339955d838fe7", func := "loop.example/g03211/laws.FnExactPlanSavings", spec := "fnExactPlanSavings", apart := false }
def FnExactPlanSavingsSaid : Prop := fnExactPlanSavingsRow.holds Tryz.pinned (OpenSpec.ofChange fnExactPlanSavingsSpec)

/-- ITS FALSE NEIGHBOUR: 'it returns false'. Refute it at one input. -/
def fnExactPlanSavingsWrong : ChangeSpec := { name := "fnExactPlanSavings", fn := fun _ => fun
  | [d1, d2] => { results := [.lit (.bool false)], args := [d1, d2] }
  | _ => none }
def FnExactPlanSavingsWrongFalsely : Prop := fnExactPlanSavingsRow.holds Tryz.pinned (OpenSpec.ofChange fnExactPlanSavingsWrong)

/-- 'laws.FnExactMakePlan': WHATEVER THE INPUT: true; the input reads as it did. -/
def fnExactMakePlanSpec : ChangeSpec := { name := "fnExactMakePlan", fn := fun _ => fun
  | [d1, d2, d3] => { results := [.lit (.bool true)], args := [d1, d2, d3] }
  | _ => none }
def fnExactMakePlanRow : OpenClaim := { program := "ytabkpkhjpfjpeaagreat", sum := "8d1c70ae23f41ca26c06e384ef8df44907e805b8ec044f6f7f7339955d838fe7", func := "loop.example/g03211/laws.FnExactMakePlan", spec := "fnExactMakePlan", apart := false }
def FnExactMakePlanSaid : Prop := fnExactMakePlanRow.holds Tryz.pinned (OpenSpec.ofChange fnExactMakePlanSpec)

/-- ITS FALSE NEIGHBOUR: 'it returns false'. Refute it at one input. -/
def fnExactMakePlanWrong : ChangeSpec := { name := "fnExactMakePlan", fn := fun _ => fun
  | [d1, d2, d3] => { results := [.lit (.bool false)], args := [d1, d2, d3] }
  | _ => none }
def FnExactMakePlanWrongFalsely : Prop := fnExactMakePlanRow.holds Tryz.pinned (OpenSpec.ofChange fnExactMakePlanWrong)

/-- 'laws.FnExactCertificateOk': WHATEVER THE INPUT: true; the input reads as it did. -/
def fnExactCertificateOkSpec : ChangeSpec := { name := "fnExactCertificateOk", fn := fun _ => fun
  | [d1, d2] => { results := [.lit (.bool true)], args := [d1, d2] }
  | _ => none }
def fnExactCertificateOkRow : OpenClaim := { program := "ytabkpkhjpfjpeaagreat", sum := "8d1c70ae23f41ca26c06e384ef8df44907e805b8ec044f6f7f7339955d838fe7", func := "loop.example/g03211/laws.FnExactCertificateOk", spec := "fnExactCertificateOk", apart := false }
def FnExactCertificateOkSaid : Prop := fnExactCertificateOkRow.holds Tryz.pinned (OpenSpec.ofChange fnExactCertificateOkSpec)

/-- ITS FALSE NEIGHBOUR: 'it returns false'. Refute it at one input. -/
def fnExactCertificateOkWrong : ChangeSpec := { name := "fnExactCertificateOk", fn := fun _ => fun
  | [d1, d2] => { results := [.lit (.bool false)], args := [d1, d2] }
  | _ => none }
def FnExactCertificateOkWrongFalsely : Prop := fnExactCertificateOkRow.holds Tryz.pinned (OpenSpec.ofChange fnExactCertificateOkWrong)

/-- 'laws.FnExactMakeCertificate': WHATEVER THE INPUT: true; the input reads as it did. -/
def fnExactMakeCertificateSpec : ChangeSpec := { name := "fnExactMakeCertificate", fn := fun _ => fun
  | [d] => { results := [.lit (.bool true)], args := [d] }
  | _ => none }
def fnExactMakeCertificateRow : OpenClaim := { program := "ytabkpkhjpfjpeaagreat", sum := "8d1c70ae23f41ca26c06e384ef8df44907e805b8ec044f6f7f7339955d838fe7", func := "loop.example/g03211/laws.FnExactMakeCertificate", spec := "fnExactMakeCertificate", apart := false }
def FnExactMakeCertificateSaid : Prop := fnExactMakeCertificateRow.holds Tryz.pinned (OpenSpec.ofChange fnExactMakeCertificateSpec)

/-- ITS FALSE NEIGHBOUR: 'it returns false'. Refute it at one input. -/
def fnExactMakeCertificateWrong : ChangeSpec := { name := "fnExactMakeCertificate", fn := fun _ => fun
  | [d] => { results := [.lit (.bool false)], args := [d] }
  | _ => none }
def FnExactMakeCertificateWrongFalsely : Prop := fnExactMakeCertificateRow.holds Tryz.pinned (OpenSpec.ofChange fnExactMakeCertificateWrong)

/- THE SECOND FORM. 'bulk': how many values and letters a reading holds, each counted each time it is reached (what is shared counts as often as it is met; a slice's spare places count too). A statement '..UptoSaid' is the law's where the arguments, and the package variables that the reading takes, are together of bulk at most 1048576: NARROWER than '..Said'. Prove '..Said' where nothing that the law and all that it calls make is longer than what came in: it says more and counts as full. Else prove '..UptoSaid'. A law counts once. -/
mutual
def uptoBulk {H : Type} : DataW H → Nat
  | .lit (.string bytes) => bytes.length + 1
  | .lit _ => 1
  | .nil => 1
  | .ptr d => uptoBulk d + 1
  | .slice elems spare => uptoBulkAll elems + uptoBulkAll spare + 1
  | .agg parts => uptoBulkAll parts + 1
  | .iface _ d => uptoBulk d + 1
  | .map entries => uptoBulkEntries entries + 1
  | .held _ => 1
def uptoBulkAll {H : Type} : List (DataW H) → Nat
  | [] => 0
  | d :: r => uptoBulk d + uptoBulkAll r
def uptoBulkEntries {H : Type} : List (Lit × DataW H) → Nat
  | [] => 0
  | x :: r => uptoBulkEntry x + uptoBulkEntries r
def uptoBulkEntry {H : Type} : Lit × DataW H → Nat
  | (.string bytes, d) => bytes.length + uptoBulk d + 1
  | (_, d) => uptoBulk d + 1
 end
def uptoSmall : (H : Type) → List (DataW H) → Bool := fun _ ds => decide (uptoBulkAll ds ≤ 1048576)
def OpenSpec.upto (s : _root_.Go.ChangeSpec) : _root_.Go.OpenSpec := { _root_.Go.OpenSpec.ofChange s with cond := some uptoSmall }

/-- 'laws.FnExactPlanOk', WHERE WHAT IT READS IS OF BULK AT MOST 1048576: true; the input reads as it did. -/
def fnExactPlanOkUptoRow : OpenClaim := { program := "ytabkpkhjpfjpeaagreat", sum := "8d1c70ae23f41ca26c06e384ef8df44907e805b8ec044f6f7f7339955d838fe7", func := "loop.example/g03211/laws.FnExactPlanOk", spec := "fnExactPlanOk", apart := false, narrowed := true }
def FnExactPlanOkUptoSaid : Prop := fnExactPlanOkUptoRow.holds Tryz.pinned (OpenSpec.upto fnExactPlanOkSpec)

/-- 'laws.FnExactPlanSavings', WHERE WHAT IT READS IS OF BULK AT MOST 1048576: true; the input reads as it did. -/
def fnExactPlanSavingsUptoRow : OpenClaim := { program := "ytabkpkhjpfjpeaagreat", sum := "8d1c70ae23f41ca26c06e384ef8df44907e805b8ec044f6f7f7339955d838fe7", func := "loop.example/g03211/laws.FnExactPlanSavings", spec := "fnExactPlanSavings", apart := false, narrowed := true }
def FnExactPlanSavingsUptoSaid : Prop := fnExactPlanSavingsUptoRow.holds Tryz.pinned (OpenSpec.upto fnExactPlanSavingsSpec)

/-- 'laws.FnExactMakePlan', WHERE WHAT IT READS IS OF BULK AT MOST 1048576: true; the input reads as it did. -/
def fnExactMakePlanUptoRow : OpenClaim := { program := "ytabkpkhjpfjpeaagreat", sum := "8d1c70ae23f41ca26c06e384ef8df44907e805b8ec044f6f7f7339955d838fe7", func := "loop.example/g03211/laws.FnExactMakePlan", spec := "fnExactMakePlan", apart := false, narrowed := true }
def FnExactMakePlanUptoSaid : Prop := fnExactMakePlanUptoRow.holds Tryz.pinned (OpenSpec.upto fnExactMakePlanSpec)

/-- 'laws.FnExactCertificateOk', WHERE WHAT IT READS IS OF BULK AT MOST 1048576: true; the input reads as it did. -/
def fnExactCertificateOkUptoRow : OpenClaim := { program := "ytabkpkhjpfjpeaagreat", sum := "8d1c70ae23f41ca26c06e384ef8df44907e805b8ec044f6f7f7339955d838fe7", func := "loop.example/g03211/laws.FnExactCertificateOk", spec := "fnExactCertificateOk", apart := false, narrowed := true }
def FnExactCertificateOkUptoSaid : Prop := fnExactCertificateOkUptoRow.holds Tryz.pinned (OpenSpec.upto fnExactCertificateOkSpec)

/-- 'laws.FnExactMakeCertificate', WHERE WHAT IT READS IS OF BULK AT MOST 1048576: true; the input reads as it did. -/
def fnExactMakeCertificateUptoRow : OpenClaim := { program := "ytabkpkhjpfjpeaagreat", sum := "8d1c70ae23f41ca26c06e384ef8df44907e805b8ec044f6f7f7339955d838fe7", func := "loop.example/g03211/laws.FnExactMakeCertificate", spec := "fnExactMakeCertificate", apart := false, narrowed := true }
def FnExactMakeCertificateUptoSaid : Prop := fnExactMakeCertificateUptoRow.holds Tryz.pinned (OpenSpec.upto fnExactMakeCertificateSpec)

end Rows
end Go.Proofs.YtabkpkhjpfjpeaaGreat
