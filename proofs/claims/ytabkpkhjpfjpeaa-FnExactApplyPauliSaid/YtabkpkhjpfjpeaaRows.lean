/-
  No cell of these rows narrows 'for every input' (looked for: loops, veiled, ifaces, maps, wideKeys, modest, calm, conditions, laid).
  DERIVED. THE GIVEN ROWS OF THIS SEAT. 7 by the template 'for every input the law returns true; each argument reads behind the call as it read before'; 0 by the template 'total and deterministic' (their statements: YtabkpkhjpfjpeaaTotals.lean).
  GIVEN WITH THE SEED: the statements are not yours to turn. If you find one false, say at which input.
  Laid BY PROGRAM, IN A SANDBOX (cutbox-rows.mjs): the forced cells as the released guide's own fill.sh prints them over the translation 46c01682f648ef1b… (all of the seat's roots in one cut). By AI agents, Wed Nov 11 2026. No macro, syntax, notation, axiom, sorry.
-/
import Derived.Test.YtabkpkhjpfjpeaaChecked
import GoSem.Claim
import GoSem.ClaimJoined
import GoSem.ClaimMapViews
import Derived.JoinedTies
import Derived.KernelRfl
namespace Go.Proofs.Ytabkpkhjpfjpeaa
/- THE CELL 'sum', in the pinned program and in every row, IS THE sha256 OF THE DUMP (.gsa) THAT YtabkpkhjpfjpeaaProg.lean LOADS. Nothing in Lean hashes anything: it is a label: what it is worth is what the hold of that sum in a sandbox is worth. -/
noncomputable def Try.pinned : Pinned := { name := "ytabkpkhjpfjpeaa", sum := "46c01682f648ef1bfb7fe1e79cc0f5ef3ab5ec97afa0a7b0cb2ca0d8466ae1d2", checked := Try.checked }
namespace Rows
def none {H : Type} : Left H := { results := [], args := [] }

/-- 'laws.FnExactApplyPauli': WHATEVER THE INPUT: true; the input reads as it did. -/
def fnExactApplyPauliSpec : ChangeSpec := { name := "fnExactApplyPauli", fn := fun _ => fun
  | [d1, d2, d3] => { results := [.lit (.bool true)], args := [d1, d2, d3] }
  | _ => none }
def fnExactApplyPauliRow : OpenClaim := { program := "ytabkpkhjpfjpeaa", sum := "46c01682f648ef1bfb7fe1e79cc0f5ef3ab5ec97afa0a7b0cb2ca0d8466ae1d2", func := "loop.example/g03211/laws.FnExactApplyPauli", spec := "fnExactApplyPauli", apart := false }
def FnExactApplyPauliSaid : Prop := fnExactApplyPauliRow.holds Try.pinned (OpenSpec.ofChange fnExactApplyPauliSpec)

/-- ITS FALSE NEIGHBOUR: 'it returns false'. Refute it at one input. -/
def fnExactApplyPauliWrong : ChangeSpec := { name := "fnExactApplyPauli", fn := fun _ => fun
  | [d1, d2, d3] => { results := [.lit (.bool false)], args := [d1, d2, d3] }
  | _ => none }
def FnExactApplyPauliWrongFalsely : Prop := fnExactApplyPauliRow.holds Try.pinned (OpenSpec.ofChange fnExactApplyPauliWrong)

/-- 'laws.FnExactFormulaNetwork': WHATEVER THE INPUT: true; the input reads as it did. -/
def fnExactFormulaNetworkSpec : ChangeSpec := { name := "fnExactFormulaNetwork", fn := fun _ => fun
  | [d1, d2] => { results := [.lit (.bool true)], args := [d1, d2] }
  | _ => none }
def fnExactFormulaNetworkRow : OpenClaim := { program := "ytabkpkhjpfjpeaa", sum := "46c01682f648ef1bfb7fe1e79cc0f5ef3ab5ec97afa0a7b0cb2ca0d8466ae1d2", func := "loop.example/g03211/laws.FnExactFormulaNetwork", spec := "fnExactFormulaNetwork", apart := false }
def FnExactFormulaNetworkSaid : Prop := fnExactFormulaNetworkRow.holds Try.pinned (OpenSpec.ofChange fnExactFormulaNetworkSpec)

/-- ITS FALSE NEIGHBOUR: 'it returns false'. Refute it at one input. -/
def fnExactFormulaNetworkWrong : ChangeSpec := { name := "fnExactFormulaNetwork", fn := fun _ => fun
  | [d1, d2] => { results := [.lit (.bool false)], args := [d1, d2] }
  | _ => none }
def FnExactFormulaNetworkWrongFalsely : Prop := fnExactFormulaNetworkRow.holds Try.pinned (OpenSpec.ofChange fnExactFormulaNetworkWrong)

/-- 'laws.FnExactSessionOk': WHATEVER THE INPUT: true; the input reads as it did. -/
def fnExactSessionOkSpec : ChangeSpec := { name := "fnExactSessionOk", fn := fun _ => fun
  | [d] => { results := [.lit (.bool true)], args := [d] }
  | _ => none }
def fnExactSessionOkRow : OpenClaim := { program := "ytabkpkhjpfjpeaa", sum := "46c01682f648ef1bfb7fe1e79cc0f5ef3ab5ec97afa0a7b0cb2ca0d8466ae1d2", func := "loop.example/g03211/laws.FnExactSessionOk", spec := "fnExactSessionOk", apart := false }
def FnExactSessionOkSaid : Prop := fnExactSessionOkRow.holds Try.pinned (OpenSpec.ofChange fnExactSessionOkSpec)

/-- ITS FALSE NEIGHBOUR: 'it returns false'. Refute it at one input. -/
def fnExactSessionOkWrong : ChangeSpec := { name := "fnExactSessionOk", fn := fun _ => fun
  | [d] => { results := [.lit (.bool false)], args := [d] }
  | _ => none }
def FnExactSessionOkWrongFalsely : Prop := fnExactSessionOkRow.holds Try.pinned (OpenSpec.ofChange fnExactSessionOkWrong)

/-- 'laws.FnExactCircuitNetwork': WHATEVER THE INPUT: true; the input reads as it did. -/
def fnExactCircuitNetworkSpec : ChangeSpec := { name := "fnExactCircuitNetwork", fn := fun _ => fun
  | [d1, d2] => { results := [.lit (.bool true)], args := [d1, d2] }
  | _ => none }
def fnExactCircuitNetworkRow : OpenClaim := { program := "ytabkpkhjpfjpeaa", sum := "46c01682f648ef1bfb7fe1e79cc0f5ef3ab5ec97afa0a7b0cb2ca0d8466ae1d2", func := "loop.example/g03211/laws.FnExactCircuitNetwork", spec := "fnExactCircuitNetwork", apart := false }
def FnExactCircuitNetworkSaid : Prop := fnExactCircuitNetworkRow.holds Try.pinned (OpenSpec.ofChange fnExactCircuitNetworkSpec)

/-- ITS FALSE NEIGHBOUR: 'it returns false'. Refute it at one input. -/
def fnExactCircuitNetworkWrong : ChangeSpec := { name := "fnExactCircuitNetwork", fn := fun _ => fun
  | [d1, d2] => { results := [.lit (.bool false)], args := [d1, d2] }
  | _ => none }
def FnExactCircuitNetworkWrongFalsely : Prop := fnExactCircuitNetworkRow.holds Try.pinned (OpenSpec.ofChange fnExactCircuitNetworkWrong)

/-- 'laws.FnExactNewSession': WHATEVER THE INPUT: true; the input reads as it did. -/
def fnExactNewSessionSpec : ChangeSpec := { name := "fnExactNewSession", fn := fun _ => fun
  | [] => { results := [.lit (.bool true)], args := [] }
  | _ => none }
def fnExactNewSessionRow : OpenClaim := { program := "ytabkpkhjpfjpeaa", sum := "46c01682f648ef1bfb7fe1e79cc0f5ef3ab5ec97afa0a7b0cb2ca0d8466ae1d2", func := "loop.example/g03211/laws.FnExactNewSession", spec := "fnExactNewSession", apart := false }
def FnExactNewSessionSaid : Prop := fnExactNewSessionRow.holds Try.pinned (OpenSpec.ofChange fnExactNewSessionSpec)

/-- ITS FALSE NEIGHBOUR: 'it returns false'. Refute it at one input. -/
def fnExactNewSessionWrong : ChangeSpec := { name := "fnExactNewSession", fn := fun _ => fun
  | [] => { results := [.lit (.bool false)], args := [] }
  | _ => none }
def FnExactNewSessionWrongFalsely : Prop := fnExactNewSessionRow.holds Try.pinned (OpenSpec.ofChange fnExactNewSessionWrong)

/-- 'laws.FnExactPerfectCount': WHATEVER THE INPUT: true; the input reads as it did. -/
def fnExactPerfectCountSpec : ChangeSpec := { name := "fnExactPerfectCount", fn := fun _ => fun
  | [d1, d2] => { results := [.lit (.bool true)], args := [d1, d2] }
  | _ => none }
def fnExactPerfectCountRow : OpenClaim := { program := "ytabkpkhjpfjpeaa", sum := "46c01682f648ef1bfb7fe1e79cc0f5ef3ab5ec97afa0a7b0cb2ca0d8466ae1d2", func := "loop.example/g03211/laws.FnExactPerfectCount", spec := "fnExactPerfectCount", apart := false }
def FnExactPerfectCountSaid : Prop := fnExactPerfectCountRow.holds Try.pinned (OpenSpec.ofChange fnExactPerfectCountSpec)

/-- ITS FALSE NEIGHBOUR: 'it returns false'. Refute it at one input. -/
def fnExactPerfectCountWrong : ChangeSpec := { name := "fnExactPerfectCount", fn := fun _ => fun
  | [d1, d2] => { results := [.lit (.bool false)], args := [d1, d2] }
  | _ => none }
def FnExactPerfectCountWrongFalsely : Prop := fnExactPerfectCountRow.holds Try.pinned (OpenSpec.ofChange fnExactPerfectCountWrong)

/-- 'laws.FnExactRunCircuit': WHATEVER THE INPUT: true; the input reads as it did. -/
def fnExactRunCircuitSpec : ChangeSpec := { name := "fnExactRunCircuit", fn := fun _ => fun
  | [d1, d2] => { results := [.lit (.bool true)], args := [d1, d2] }
  | _ => none }
def fnExactRunCircuitRow : OpenClaim := { program := "ytabkpkhjpfjpeaa", sum := "46c01682f648ef1bfb7fe1e79cc0f5ef3ab5ec97afa0a7b0cb2ca0d8466ae1d2", func := "loop.example/g03211/laws.FnExactRunCircuit", spec := "fnExactRunCircuit", apart := false }
def FnExactRunCircuitSaid : Prop := fnExactRunCircuitRow.holds Try.pinned (OpenSpec.ofChange fnExactRunCircuitSpec)

/-- ITS FALSE NEIGHBOUR: 'it returns false'. Refute it at one input. -/
def fnExactRunCircuitWrong : ChangeSpec := { name := "fnExactRunCircuit", fn := fun _ => fun
  | [d1, d2] => { results := [.lit (.bool false)], args := [d1, d2] }
  | _ => none }
def FnExactRunCircuitWrongFalsely : Prop := fnExactRunCircuitRow.holds Try.pinned (OpenSpec.ofChange fnExactRunCircuitWrong)

/- THE SECOND FORM. 'bulk': how many values and letters a reading holds, each counted each time it is reached (what is shared counts as often as it is met; a slice's spare places count too). A statement '..UptoSaid' is the law's where the arguments, and the package variables that the reading takes, are together of bulk at most 1048576: NARROWER than '..Said'. Prove '..Said' where nothing that the law and all that it calls make is longer than what came in: it says more and counts as full. Else prove '..UptoSaid'. A law counts once. -/
mutual
def uptoBulk {H : Type} : DataW H → Nat
  | .lit (.string bytes) => bytes.length + 1
  | .lit _ => 1
  | .nil => 1
  | .ptr d => uptoBulk d + 1
  | .slice elems spare => uptoBulkAll elems + uptoBulkAll spare + 1
  | .agg parts => uptoBulkAll parts + 1
  | .iface _ d => uptoBulk d + 1
  | .map entries => uptoBulkEntries entries + 1
  | .held _ => 1
def uptoBulkAll {H : Type} : List (DataW H) → Nat
  | [] => 0
  | d :: r => uptoBulk d + uptoBulkAll r
def uptoBulkEntries {H : Type} : List (Lit × DataW H) → Nat
  | [] => 0
  | x :: r => uptoBulkEntry x + uptoBulkEntries r
def uptoBulkEntry {H : Type} : Lit × DataW H → Nat
  | (.string bytes, d) => bytes.length + uptoBulk d + 1
  | (_, d) => uptoBulk d + 1
 end
def uptoSmall : (H : Type) → List (DataW H) → Bool := fun _ ds => decide (uptoBulkAll ds ≤ 1048576)
def OpenSpec.upto (s : _root_.Go.ChangeSpec) : _root_.Go.OpenSpec := { _root_.Go.OpenSpec.ofChange s with cond := some uptoSmall }

/-- 'laws.FnExactApplyPauli', WHERE WHAT IT READS IS OF BULK AT MOST 1048576: true; the input reads as it did. -/
def fnExactApplyPauliUptoRow : OpenClaim := { program := "ytabkpkhjpfjpeaa", sum := "46c01682f648ef1bfb7fe1e79cc0f5ef3ab5ec97afa0a7b0cb2ca0d8466ae1d2", func := "loop.example/g03211/laws.FnExactApplyPauli", spec := "fnExactApplyPauli", apart := false, narrowed := true }
def FnExactApplyPauliUptoSaid : Prop := fnExactApplyPauliUptoRow.holds Try.pinned (OpenSpec.upto fnExactApplyPauliSpec)

/-- 'laws.FnExactFormulaNetwork', WHERE WHAT IT READS IS OF BULK AT MOST 1048576: true; the input reads as it did. -/
def fnExactFormulaNetworkUptoRow : OpenClaim := { program := "ytabkpkhjpfjpeaa", sum := "46c01682f648ef1bfb7fe1e79cc0f5ef3ab5ec97afa0a7b0cb2ca0d8466ae1d2", func := "loop.example/g03211/laws.FnExactFormulaNetwork", spec := "fnExactFormulaNetwork", apart := false, narrowed := true }
def FnExactFormulaNetworkUptoSaid : Prop := fnExactFormulaNetworkUptoRow.holds Try.pinned (OpenSpec.upto fnExactFormulaNetworkSpec)

/-- 'laws.FnExactSessionOk', WHERE WHAT IT READS IS OF BULK AT MOST 1048576: true; the input reads as it did. -/
def fnExactSessionOkUptoRow : OpenClaim := { program := "ytabkpkhjpfjpeaa", sum := "46c01682f648ef1bfb7fe1e79cc0f5ef3ab5ec97afa0a7b0cb2ca0d8466ae1d2", func := "loop.example/g03211/laws.FnExactSessionOk", spec := "fnExactSessionOk", apart := false, narrowed := true }
def FnExactSessionOkUptoSaid : Prop := fnExactSessionOkUptoRow.holds Try.pinned (OpenSpec.upto fnExactSessionOkSpec)

/-- 'laws.FnExactCircuitNetwork', WHERE WHAT IT READS IS OF BULK AT MOST 1048576: true; the input reads as it did. -/
def fnExactCircuitNetworkUptoRow : OpenClaim := { program := "ytabkpkhjpfjpeaa", sum := "46c01682f648ef1bfb7fe1e79cc0f5ef3ab5ec97afa0a7b0cb2ca0d8466ae1d2", func := "loop.example/g03211/laws.FnExactCircuitNetwork", spec := "fnExactCircuitNetwork", apart := false, narrowed := true }
def FnExactCircuitNetworkUptoSaid : Prop := fnExactCircuitNetworkUptoRow.holds Try.pinned (OpenSpec.upto fnExactCircuitNetworkSpec)

/-- 'laws.FnExactNewSession', WHERE WHAT IT READS IS OF BULK AT MOST 1048576: true; the input reads as it did. -/
def fnExactNewSessionUptoRow : OpenClaim := { program := "ytabkpkhjpfjpeaa", sum := "46c01682f648ef1bfb7fe1e79cc0f5ef3ab5ec97afa0a7b0cb2ca0d8466ae1d2", func := "loop.example/g03211/laws.FnExactNewSession", spec := "fnExactNewSession", apart := false, narrowed := true }
def FnExactNewSessionUptoSaid : Prop := fnExactNewSessionUptoRow.holds Try.pinned (OpenSpec.upto fnExactNewSessionSpec)

/-- 'laws.FnExactPerfectCount', WHERE WHAT IT READS IS OF BULK AT MOST 1048576: true; the input reads as it did. -/
def fnExactPerfectCountUptoRow : OpenClaim := { program := "ytabkpkhjpfjpeaa", sum := "46c01682f648ef1bfb7fe1e79cc0f5ef3ab5ec97afa0a7b0cb2ca0d8466ae1d2", func := "loop.example/g03211/laws.FnExactPerfectCount", spec := "fnExactPerfectCount", apart := false, narrowed := true }
def FnExactPerfectCountUptoSaid : Prop := fnExactPerfectCountUptoRow.holds Try.pinned (OpenSpec.upto fnExactPerfectCountSpec)

/-- 'laws.FnExactRunCircuit', WHERE WHAT IT READS IS OF BULK AT MOST 1048576: true; the input reads as it did. -/
def fnExactRunCircuitUptoRow : OpenClaim := { program := "ytabkpkhjpfjpeaa", sum := "46c01682f648ef1bfb7fe1e79cc0f5ef3ab5ec97afa0a7b0cb2ca0d8466ae1d2", func := "loop.example/g03211/laws.FnExactRunCircuit", spec := "fnExactRunCircuit", apart := false, narrowed := true }
def FnExactRunCircuitUptoSaid : Prop := fnExactRunCircuitUptoRow.holds Try.pinned (OpenSpec.upto fnExactRunCircuitSpec)

end Rows
end Go.Proofs.Ytabkpkhjpfjpeaa
