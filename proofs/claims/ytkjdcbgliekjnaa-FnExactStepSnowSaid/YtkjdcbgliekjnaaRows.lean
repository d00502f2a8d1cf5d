/-
  No cell of these rows narrows 'for every input' (looked for: loops, veiled, ifaces, maps, wideKeys, modest, calm, conditions, laid).
  DERIVED. THE GIVEN ROWS OF THIS SEAT. 16 by the template 'for every input the law returns true; each argument reads behind the call as it read before'; 0 by the template 'total and deterministic' (their statements: YtkjdcbgliekjnaaTotals.lean).
  GIVEN WITH THE SEED: the statements are not yours to turn. If you find one false, say at which input.
  Laid BY PROGRAM, IN A SANDBOX (cutbox-rows.mjs): the forced cells as the released guide's own fill.sh prints them over the translation 79dea31e05afe6aa… (all of the seat's roots in one cut). By AI agents, Wed Nov 11 2026. No macro, syntax, notation, axiom, sorry.
-/
import Derived.Test.YtkjdcbgliekjnaaChecked
import GoSem.Claim
import GoSem.ClaimJoined
import GoSem.ClaimMapViews
import Derived.JoinedTies
import Derived.KernelRfl
namespace Go.Proofs.Ytkjdcbgliekjnaa
/- THE CELL 'sum', in the pinned program and in every row, IS THE sha256 OF THE DUMP (.gsa) THAT YtkjdcbgliekjnaaProg.lean LOADS. Nothing in Lean hashes anything: it is a label: what it is worth is what the hold of that sum in a sandbox is worth. -/
noncomputable def Try.pinned : Pinned := { name := "ytkjdcbgliekjnaa", sum := "79dea31e05afe6aa9711db9b9d494908c7b4fd968f14b7563bde60c93f8894d0", checked := Try.checked }
namespace Rows
def none {H : Type} : Left H := { results := [], args := [] }

/-- 'laws.FnExactAreaAt': WHATEVER THE INPUT: true; the input reads as it did. -/
def fnExactAreaAtSpec : ChangeSpec := { name := "fnExactAreaAt", fn := fun _ => fun
  | [d1, d2] => { results := [.lit (.bool true)], args := [d1, d2] }
  | _ => none }
def fnExactAreaAtRow : OpenClaim := { program := "ytkjdcbgliekjnaa", sum := "79dea31e05afe6aa9711db9b9d494908c7b4fd968f14b7563bde60c93f8894d0", func := "loop.example/g01302/laws.FnExactAreaAt", spec := "fnExactAreaAt", inPlace := ["math.Float64bits", "math.Float64frombits"], unfollowed := true, recurses := true, apart := false }
def FnExactAreaAtSaid : Prop := fnExactAreaAtRow.holds Try.pinned (OpenSpec.ofChange fnExactAreaAtSpec)

/-- ITS FALSE NEIGHBOUR: 'it returns false'. Refute it at one input. -/
def fnExactAreaAtWrong : ChangeSpec := { name := "fnExactAreaAt", fn := fun _ => fun
  | [d1, d2] => { results := [.lit (.bool false)], args := [d1, d2] }
  | _ => none }
def FnExactAreaAtWrongFalsely : Prop := fnExactAreaAtRow.holds Try.pinned (OpenSpec.ofChange fnExactAreaAtWrong)

/-- 'laws.FnExactTopAt': WHATEVER THE INPUT: true; the input reads as it did. -/
def fnExactTopAtSpec : ChangeSpec := { name := "fnExactTopAt", fn := fun _ => fun
  | [d1, d2] => { results := [.lit (.bool true)], args := [d1, d2] }
  | _ => none }
def fnExactTopAtRow : OpenClaim := { program := "ytkjdcbgliekjnaa", sum := "79dea31e05afe6aa9711db9b9d494908c7b4fd968f14b7563bde60c93f8894d0", func := "loop.example/g01302/laws.FnExactTopAt", spec := "fnExactTopAt", inPlace := ["math.Float64bits", "math.Float64frombits"], unfollowed := true, recurses := true, apart := false }
def FnExactTopAtSaid : Prop := fnExactTopAtRow.holds Try.pinned (OpenSpec.ofChange fnExactTopAtSpec)

/-- ITS FALSE NEIGHBOUR: 'it returns false'. Refute it at one input. -/
def fnExactTopAtWrong : ChangeSpec := { name := "fnExactTopAt", fn := fun _ => fun
  | [d1, d2] => { results := [.lit (.bool false)], args := [d1, d2] }
  | _ => none }
def FnExactTopAtWrongFalsely : Prop := fnExactTopAtRow.holds Try.pinned (OpenSpec.ofChange fnExactTopAtWrong)

/-- 'laws.FnExactRainAt': WHATEVER THE INPUT: true; the input reads as it did. -/
def fnExactRainAtSpec : ChangeSpec := { name := "fnExactRainAt", fn := fun _ => fun
  | [d1, d2] => { results := [.lit (.bool true)], args := [d1, d2] }
  | _ => none }
def fnExactRainAtRow : OpenClaim := { program := "ytkjdcbgliekjnaa", sum := "79dea31e05afe6aa9711db9b9d494908c7b4fd968f14b7563bde60c93f8894d0", func := "loop.example/g01302/laws.FnExactRainAt", spec := "fnExactRainAt", inPlace := ["math.Float64bits", "math.Float64frombits"], unfollowed := true, recurses := true, apart := false }
def FnExactRainAtSaid : Prop := fnExactRainAtRow.holds Try.pinned (OpenSpec.ofChange fnExactRainAtSpec)

/-- ITS FALSE NEIGHBOUR: 'it returns false'. Refute it at one input. -/
def fnExactRainAtWrong : ChangeSpec := { name := "fnExactRainAt", fn := fun _ => fun
  | [d1, d2] => { results := [.lit (.bool false)], args := [d1, d2] }
  | _ => none }
def FnExactRainAtWrongFalsely : Prop := fnExactRainAtRow.holds Try.pinned (OpenSpec.ofChange fnExactRainAtWrong)

/-- 'laws.FnExactDryRun': WHATEVER THE INPUT: true; the input reads as it did. -/
def fnExactDryRunSpec : ChangeSpec := { name := "fnExactDryRun", fn := fun _ => fun
  | [d1, d2] => { results := [.lit (.bool true)], args := [d1, d2] }
  | _ => none }
def fnExactDryRunRow : OpenClaim := { program := "ytkjdcbgliekjnaa", sum := "79dea31e05afe6aa9711db9b9d494908c7b4fd968f14b7563bde60c93f8894d0", func := "loop.example/g01302/laws.FnExactDryRun", spec := "fnExactDryRun", inPlace := ["math.Float64bits", "math.Float64frombits"], unfollowed := true, recurses := true, apart := false }
def FnExactDryRunSaid : Prop := fnExactDryRunRow.holds Try.pinned (OpenSpec.ofChange fnExactDryRunSpec)

/-- ITS FALSE NEIGHBOUR: 'it returns false'. Refute it at one input. -/
def fnExactDryRunWrong : ChangeSpec := { name := "fnExactDryRun", fn := fun _ => fun
  | [d1, d2] => { results := [.lit (.bool false)], args := [d1, d2] }
  | _ => none }
def FnExactDryRunWrongFalsely : Prop := fnExactDryRunRow.holds Try.pinned (OpenSpec.ofChange fnExactDryRunWrong)

/-- 'laws.FnExactFallenBy': WHATEVER THE INPUT: true; the input reads as it did. -/
def fnExactFallenBySpec : ChangeSpec := { name := "fnExactFallenBy", fn := fun _ => fun
  | [d1, d2] => { results := [.lit (.bool true)], args := [d1, d2] }
  | _ => none }
def fnExactFallenByRow : OpenClaim := { program := "ytkjdcbgliekjnaa", sum := "79dea31e05afe6aa9711db9b9d494908c7b4fd968f14b7563bde60c93f8894d0", func := "loop.example/g01302/laws.FnExactFallenBy", spec := "fnExactFallenBy", inPlace := ["math.Float64bits", "math.Float64frombits"], unfollowed := true, recurses := true, apart := false }
def FnExactFallenBySaid : Prop := fnExactFallenByRow.holds Try.pinned (OpenSpec.ofChange fnExactFallenBySpec)

/-- ITS FALSE NEIGHBOUR: 'it returns false'. Refute it at one input. -/
def fnExactFallenByWrong : ChangeSpec := { name := "fnExactFallenBy", fn := fun _ => fun
  | [d1, d2] => { results := [.lit (.bool false)], args := [d1, d2] }
  | _ => none }
def FnExactFallenByWrongFalsely : Prop := fnExactFallenByRow.holds Try.pinned (OpenSpec.ofChange fnExactFallenByWrong)

/-- 'laws.FnExactSpeedAt': WHATEVER THE INPUT: true; the input reads as it did. -/
def fnExactSpeedAtSpec : ChangeSpec := { name := "fnExactSpeedAt", fn := fun _ => fun
  | [d1, d2, d3] => { results := [.lit (.bool true)], args := [d1, d2, d3] }
  | _ => none }
def fnExactSpeedAtRow : OpenClaim := { program := "ytkjdcbgliekjnaa", sum := "79dea31e05afe6aa9711db9b9d494908c7b4fd968f14b7563bde60c93f8894d0", func := "loop.example/g01302/laws.FnExactSpeedAt", spec := "fnExactSpeedAt", inPlace := ["math.Float64bits", "math.Float64frombits"], unfollowed := true, recurses := true, apart := false }
def FnExactSpeedAtSaid : Prop := fnExactSpeedAtRow.holds Try.pinned (OpenSpec.ofChange fnExactSpeedAtSpec)

/-- ITS FALSE NEIGHBOUR: 'it returns false'. Refute it at one input. -/
def fnExactSpeedAtWrong : ChangeSpec := { name := "fnExactSpeedAt", fn := fun _ => fun
  | [d1, d2, d3] => { results := [.lit (.bool false)], args := [d1, d2, d3] }
  | _ => none }
def FnExactSpeedAtWrongFalsely : Prop := fnExactSpeedAtRow.holds Try.pinned (OpenSpec.ofChange fnExactSpeedAtWrong)

/-- 'laws.FnExactPipeFlow': WHATEVER THE INPUT: true; the input reads as it did. -/
def fnExactPipeFlowSpec : ChangeSpec := { name := "fnExactPipeFlow", fn := fun _ => fun
  | [d1, d2, d3, d4] => { results := [.lit (.bool true)], args := [d1, d2, d3, d4] }
  | _ => none }
def fnExactPipeFlowRow : OpenClaim := { program := "ytkjdcbgliekjnaa", sum := "79dea31e05afe6aa9711db9b9d494908c7b4fd968f14b7563bde60c93f8894d0", func := "loop.example/g01302/laws.FnExactPipeFlow", spec := "fnExactPipeFlow", inPlace := ["math.sqrt", "math.Float64bits", "math.Float64frombits"], apart := false }
def FnExactPipeFlowSaid : Prop := fnExactPipeFlowRow.holds Try.pinned (OpenSpec.ofChange fnExactPipeFlowSpec)

/-- ITS FALSE NEIGHBOUR: 'it returns false'. Refute it at one input. -/
def fnExactPipeFlowWrong : ChangeSpec := { name := "fnExactPipeFlow", fn := fun _ => fun
  | [d1, d2, d3, d4] => { results := [.lit (.bool false)], args := [d1, d2, d3, d4] }
  | _ => none }
def FnExactPipeFlowWrongFalsely : Prop := fnExactPipeFlowRow.holds Try.pinned (OpenSpec.ofChange fnExactPipeFlowWrong)

/-- 'laws.FnExactHeadAt': WHATEVER THE INPUT: true; the input reads as it did. -/
def fnExactHeadAtSpec : ChangeSpec := { name := "fnExactHeadAt", fn := fun _ => fun
  | [d1, d2, d3] => { results := [.lit (.bool true)], args := [d1, d2, d3] }
  | _ => none }
def fnExactHeadAtRow : OpenClaim := { program := "ytkjdcbgliekjnaa", sum := "79dea31e05afe6aa9711db9b9d494908c7b4fd968f14b7563bde60c93f8894d0", func := "loop.example/g01302/laws.FnExactHeadAt", spec := "fnExactHeadAt", inPlace := ["math.Float64bits", "math.Float64frombits"], unfollowed := true, recurses := true, apart := false }
def FnExactHeadAtSaid : Prop := fnExactHeadAtRow.holds Try.pinned (OpenSpec.ofChange fnExactHeadAtSpec)

/-- ITS FALSE NEIGHBOUR: 'it returns false'. Refute it at one input. -/
def fnExactHeadAtWrong : ChangeSpec := { name := "fnExactHeadAt", fn := fun _ => fun
  | [d1, d2, d3] => { results := [.lit (.bool false)], args := [d1, d2, d3] }
  | _ => none }
def FnExactHeadAtWrongFalsely : Prop := fnExactHeadAtRow.holds Try.pinned (OpenSpec.ofChange fnExactHeadAtWrong)

/-- 'laws.FnExactPushAt': WHATEVER THE INPUT: true; the input reads as it did. -/
def fnExactPushAtSpec : ChangeSpec := { name := "fnExactPushAt", fn := fun _ => fun
  | [d1, d2, d3] => { results := [.lit (.bool true)], args := [d1, d2, d3] }
  | _ => none }
def fnExactPushAtRow : OpenClaim := { program := "ytkjdcbgliekjnaa", sum := "79dea31e05afe6aa9711db9b9d494908c7b4fd968f14b7563bde60c93f8894d0", func := "loop.example/g01302/laws.FnExactPushAt", spec := "fnExactPushAt", inPlace := ["math.Float64bits", "math.Float64frombits"], unfollowed := true, recurses := true, apart := false }
def FnExactPushAtSaid : Prop := fnExactPushAtRow.holds Try.pinned (OpenSpec.ofChange fnExactPushAtSpec)

/-- ITS FALSE NEIGHBOUR: 'it returns false'. Refute it at one input. -/
def fnExactPushAtWrong : ChangeSpec := { name := "fnExactPushAt", fn := fun _ => fun
  | [d1, d2, d3] => { results := [.lit (.bool false)], args := [d1, d2, d3] }
  | _ => none }
def FnExactPushAtWrongFalsely : Prop := fnExactPushAtRow.holds Try.pinned (OpenSpec.ofChange fnExactPushAtWrong)

/-- 'laws.FnExactStepSnow': WHATEVER THE INPUT: true; the input reads as it did. -/
def fnExactStepSnowSpec : ChangeSpec := { name := "fnExactStepSnow", fn := fun _ => fun
  | [d1, d2, d3, d4] => { results := [.lit (.bool true)], args := [d1, d2, d3, d4] }
  | _ => none }
def fnExactStepSnowRow : OpenClaim := { program := "ytkjdcbgliekjnaa", sum := "79dea31e05afe6aa9711db9b9d494908c7b4fd968f14b7563bde60c93f8894d0", func := "loop.example/g01302/laws.FnExactStepSnow", spec := "fnExactStepSnow", inPlace := ["math.Float64bits", "math.Float64frombits"], unfollowed := true, recurses := true, apart := false }
def FnExactStepSnowSaid : Prop := fnExactStepSnowRow.holds Try.pinned (OpenSpec.ofChange fnExactStepSnowSpec)

/-- ITS FALSE NEIGHBOUR: 'it returns false'. Refute it at one input. -/
def fnExactStepSnowWrong : ChangeSpec := { name := "fnExactStepSnow", fn := fun _ => fun
  | [d1, d2, d3, d4] => { results := [.lit (.bool false)], args := [d1, d2, d3, d4] }
  | _ => none }
def FnExactStepSnowWrongFalsely : Prop := fnExactStepSnowRow.holds Try.pinned (OpenSpec.ofChange fnExactStepSnowWrong)

/-- 'laws.FnExactGateUnder': WHATEVER THE INPUT: true; the input reads as it did. -/
def fnExactGateUnderSpec : ChangeSpec := { name := "fnExactGateUnder", fn := fun _ => fun
  | [d1, d2, d3, d4] => { results := [.lit (.bool true)], args := [d1, d2, d3, d4] }
  | _ => none }
def fnExactGateUnderRow : OpenClaim := { program := "ytkjdcbgliekjnaa", sum := "79dea31e05afe6aa9711db9b9d494908c7b4fd968f14b7563bde60c93f8894d0", func := "loop.example/g01302/laws.FnExactGateUnder", spec := "fnExactGateUnder", inPlace := ["math.sqrt", "math.Float64bits", "math.Float64frombits"], unfollowed := true, recurses := true, apart := false }
def FnExactGateUnderSaid : Prop := fnExactGateUnderRow.holds Try.pinned (OpenSpec.ofChange fnExactGateUnderSpec)

/-- ITS FALSE NEIGHBOUR: 'it returns false'. Refute it at one input. -/
def fnExactGateUnderWrong : ChangeSpec := { name := "fnExactGateUnder", fn := fun _ => fun
  | [d1, d2, d3, d4] => { results := [.lit (.bool false)], args := [d1, d2, d3, d4] }
  | _ => none }
def FnExactGateUnderWrongFalsely : Prop := fnExactGateUnderRow.holds Try.pinned (OpenSpec.ofChange fnExactGateUnderWrong)

/-- 'laws.FnExactSpreadRain': WHATEVER THE INPUT: true; the input reads as it did. -/
def fnExactSpreadRainSpec : ChangeSpec := { name := "fnExactSpreadRain", fn := fun _ => fun
  | [d1, d2] => { results := [.lit (.bool true)], args := [d1, d2] }
  | _ => none }
def fnExactSpreadRainRow : OpenClaim := { program := "ytkjdcbgliekjnaa", sum := "79dea31e05afe6aa9711db9b9d494908c7b4fd968f14b7563bde60c93f8894d0", func := "loop.example/g01302/laws.FnExactSpreadRain", spec := "fnExactSpreadRain", inPlace := ["math.Float64bits", "math.Float64frombits"], unfollowed := true, recurses := true, apart := false }
def FnExactSpreadRainSaid : Prop := fnExactSpreadRainRow.holds Try.pinned (OpenSpec.ofChange fnExactSpreadRainSpec)

/-- ITS FALSE NEIGHBOUR: 'it returns false'. Refute it at one input. -/
def fnExactSpreadRainWrong : ChangeSpec := { name := "fnExactSpreadRain", fn := fun _ => fun
  | [d1, d2] => { results := [.lit (.bool false)], args := [d1, d2] }
  | _ => none }
def FnExactSpreadRainWrongFalsely : Prop := fnExactSpreadRainRow.holds Try.pinned (OpenSpec.ofChange fnExactSpreadRainWrong)

/-- 'laws.FnExactWeirOver': WHATEVER THE INPUT: true; the input reads as it did. -/
def fnExactWeirOverSpec : ChangeSpec := { name := "fnExactWeirOver", fn := fun _ => fun
  | [d1, d2, d3, d4] => { results := [.lit (.bool true)], args := [d1, d2, d3, d4] }
  | _ => none }
def fnExactWeirOverRow : OpenClaim := { program := "ytkjdcbgliekjnaa", sum := "79dea31e05afe6aa9711db9b9d494908c7b4fd968f14b7563bde60c93f8894d0", func := "loop.example/g01302/laws.FnExactWeirOver", spec := "fnExactWeirOver", inPlace := ["math.sqrt", "math.Float64bits", "math.Float64frombits"], unfollowed := true, recurses := true, apart := false }
def FnExactWeirOverSaid : Prop := fnExactWeirOverRow.holds Try.pinned (OpenSpec.ofChange fnExactWeirOverSpec)

/-- ITS FALSE NEIGHBOUR: 'it returns false'. Refute it at one input. -/
def fnExactWeirOverWrong : ChangeSpec := { name := "fnExactWeirOver", fn := fun _ => fun
  | [d1, d2, d3, d4] => { results := [.lit (.bool false)], args := [d1, d2, d3, d4] }
  | _ => none }
def FnExactWeirOverWrongFalsely : Prop := fnExactWeirOverRow.holds Try.pinned (OpenSpec.ofChange fnExactWeirOverWrong)

/-- 'laws.FnExactWetAt': WHATEVER THE INPUT: true; the input reads as it did. -/
def fnExactWetAtSpec : ChangeSpec := { name := "fnExactWetAt", fn := fun _ => fun
  | [d1, d2] => { results := [.lit (.bool true)], args := [d1, d2] }
  | _ => none }
def fnExactWetAtRow : OpenClaim := { program := "ytkjdcbgliekjnaa", sum := "79dea31e05afe6aa9711db9b9d494908c7b4fd968f14b7563bde60c93f8894d0", func := "loop.example/g01302/laws.FnExactWetAt", spec := "fnExactWetAt", inPlace := ["math.sqrt", "math.Float64bits", "math.Float64frombits"], unfollowed := true, recurses := true, apart := false }
def FnExactWetAtSaid : Prop := fnExactWetAtRow.holds Try.pinned (OpenSpec.ofChange fnExactWetAtSpec)

/-- ITS FALSE NEIGHBOUR: 'it returns false'. Refute it at one input. -/
def fnExactWetAtWrong : ChangeSpec := { name := "fnExactWetAt", fn := fun _ => fun
  | [d1, d2] => { results := [.lit (.bool false)], args := [d1, d2] }
  | _ => none }
def FnExactWetAtWrongFalsely : Prop := fnExactWetAtRow.holds Try.pinned (OpenSpec.ofChange fnExactWetAtWrong)

/-- 'laws.FnExactCriticalDepth': WHATEVER THE INPUT: true; the input reads as it did. -/
def fnExactCriticalDepthSpec : ChangeSpec := { name := "fnExactCriticalDepth", fn := fun _ => fun
  | [d1, d2] => { results := [.lit (.bool true)], args := [d1, d2] }
  | _ => none }
def fnExactCriticalDepthRow : OpenClaim := { program := "ytkjdcbgliekjnaa", sum := "79dea31e05afe6aa9711db9b9d494908c7b4fd968f14b7563bde60c93f8894d0", func := "loop.example/g01302/laws.FnExactCriticalDepth", spec := "fnExactCriticalDepth", inPlace := ["math.Float64bits", "math.Float64frombits"], unfollowed := true, recurses := true, apart := false }
def FnExactCriticalDepthSaid : Prop := fnExactCriticalDepthRow.holds Try.pinned (OpenSpec.ofChange fnExactCriticalDepthSpec)

/-- ITS FALSE NEIGHBOUR: 'it returns false'. Refute it at one input. -/
def fnExactCriticalDepthWrong : ChangeSpec := { name := "fnExactCriticalDepth", fn := fun _ => fun
  | [d1, d2] => { results := [.lit (.bool false)], args := [d1, d2] }
  | _ => none }
def FnExactCriticalDepthWrongFalsely : Prop := fnExactCriticalDepthRow.holds Try.pinned (OpenSpec.ofChange fnExactCriticalDepthWrong)

/-- 'laws.FnExactLevelFor': WHATEVER THE INPUT: true; the input reads as it did. -/
def fnExactLevelForSpec : ChangeSpec := { name := "fnExactLevelFor", fn := fun _ => fun
  | [d1, d2, d3] => { results := [.lit (.bool true)], args := [d1, d2, d3] }
  | _ => none }
def fnExactLevelForRow : OpenClaim := { program := "ytkjdcbgliekjnaa", sum := "79dea31e05afe6aa9711db9b9d494908c7b4fd968f14b7563bde60c93f8894d0", func := "loop.example/g01302/laws.FnExactLevelFor", spec := "fnExactLevelFor", inPlace := ["math.Float64frombits", "math.Float64bits"], apart := false }
def FnExactLevelForSaid : Prop := fnExactLevelForRow.holds Try.pinned (OpenSpec.ofChange fnExactLevelForSpec)

/-- ITS FALSE NEIGHBOUR: 'it returns false'. Refute it at one input. -/
def fnExactLevelForWrong : ChangeSpec := { name := "fnExactLevelFor", fn := fun _ => fun
  | [d1, d2, d3] => { results := [.lit (.bool false)], args := [d1, d2, d3] }
  | _ => none }
def FnExactLevelForWrongFalsely : Prop := fnExactLevelForRow.holds Try.pinned (OpenSpec.ofChange fnExactLevelForWrong)

/- THE SECOND FORM. 'bulk': how many values and letters a reading holds, each counted each time it is reached (what is shared counts as often as it is met; a slice's spare places count too). A statement '..UptoSaid' is the law's where the arguments, and the package variables that the reading takes, are together of bulk at most 1048576: NARROWER than '..Said'. Prove '..Said' where nothing that the law and all that it calls make is longer than what came in: it says more and counts as full. Else prove '..UptoSaid'. A law counts once. -/
mutual
def uptoBulk {H : Type} : DataW H → Nat
  | .lit (.string bytes) => bytes.length + 1
  | .lit _ => 1
  | .nil => 1
  | .ptr d => uptoBulk d + 1
  | .slice elems spare => uptoBulkAll elems + uptoBulkAll spare + 1
  | .agg parts => uptoBulkAll parts + 1
  | .iface _ d => uptoBulk d + 1
  | .map entries => uptoBulkEntries entries + 1
  | .held _ => 1
def uptoBulkAll {H : Type} : List (DataW H) → Nat
  | [] => 0
  | d :: r => uptoBulk d + uptoBulkAll r
def uptoBulkEntries {H : Type} : List (Lit × DataW H) → Nat
  | [] => 0
  | x :: r => uptoBulkEntry x + uptoBulkEntries r
def uptoBulkEntry {H : Type} : Lit × DataW H → Nat
  | (.string bytes, d) => bytes.length + uptoBulk d + 1
  | (_, d) => uptoBulk d + 1
 end
def uptoSmall : (H : Type) → List (DataW H) → Bool := fun _ ds => decide (uptoBulkAll ds ≤ 1048576)
def OpenSpec.upto (s : _root_.Go.ChangeSpec) : _root_.Go.OpenSpec := { _root_.Go.OpenSpec.ofChange s with cond := some uptoSmall }

/-- 'laws.FnExactAreaAt', WHERE WHAT IT READS IS OF BULK AT MOST 1048576: true; the input reads as it did. -/
def fnExactAreaAtUptoRow : OpenClaim := { program := "ytkjdcbgliekjnaa", sum := "79dea31e05afe6aa9711db9b9d494908c7b4fd968f14b7563bde60c93f8894d0", func := "loop.example/g01302/laws.FnExactAreaAt", spec := "fnExactAreaAt", inPlace := ["math.Float64bits", "math.Float64frombits"], unfollowed := true, recurses := true, apart := false, narrowed := true }
def FnExactAreaAtUptoSaid : Prop := fnExactAreaAtUptoRow.holds Try.pinned (OpenSpec.upto fnExactAreaAtSpec)

/-- 'laws.FnExactTopAt', WHERE WHAT IT READS IS OF BULK AT MOST 1048576: true; the input reads as it did. -/
def fnExactTopAtUptoRow : OpenClaim := { program := "ytkjdcbgliekjnaa", sum := "79dea31e05afe6aa9711db9b9d494908c7b4fd968f14b7563bde60c93f8894d0", func := "loop.example/g01302/laws.FnExactTopAt", spec := "fnExactTopAt", inPlace := ["math.Float64bits", "math.Float64frombits"], unfollowed := true, recurses := true, apart := false, narrowed := true }
def FnExactTopAtUptoSaid : Prop := fnExactTopAtUptoRow.holds Try.pinned (OpenSpec.upto fnExactTopAtSpec)

/-- 'laws.FnExactRainAt', WHERE WHAT IT READS IS OF BULK AT MOST 1048576: true; the input reads as it did. -/
def fnExactRainAtUptoRow : OpenClaim := { program := "ytkjdcbgliekjnaa", sum := "79dea31e05afe6aa9711db9b9d494908c7b4fd968f14b7563bde60c93f8894d0", func := "loop.example/g01302/laws.FnExactRainAt", spec := "fnExactRainAt", inPlace := ["math.Float64bits", "math.Float64frombits"], unfollowed := true, recurses := true, apart := false, narrowed := true }
def FnExactRainAtUptoSaid : Prop := fnExactRainAtUptoRow.holds Try.pinned (OpenSpec.upto fnExactRainAtSpec)

/-- 'laws.FnExactDryRun', WHERE WHAT IT READS IS OF BULK AT MOST 1048576: true; the input reads as it did. -/
def fnExactDryRunUptoRow : OpenClaim := { program := "ytkjdcbgliekjnaa", sum := "79dea31e05afe6aa9711db9b9d494908c7b4fd968f14b7563bde60c93f8894d0", func := "loop.example/g01302/laws.FnExactDryRun", spec := "fnExactDryRun", inPlace := ["math.Float64bits", "math.Float64frombits"], unfollowed := true, recurses := true, apart := false, narrowed := true }
def FnExactDryRunUptoSaid : Prop := fnExactDryRunUptoRow.holds Try.pinned (OpenSpec.upto fnExactDryRunSpec)

/-- 'laws.FnExactFallenBy', WHERE WHAT IT READS IS OF BULK AT MOST 1048576: true; the input reads as it did. -/
def fnExactFallenByUptoRow : OpenClaim := { program := "ytkjdcbgliekjnaa", sum := "79dea31e05afe6aa9711db9b9d494908c7b4fd968f14b7563bde60c93f8894d0", func := "loop.example/g01302/laws.FnExactFallenBy", spec := "fnExactFallenBy", inPlace := ["math.Float64bits", "math.Float64frombits"], unfollowed := true, recurses := true, apart := false, narrowed := true }
def FnExactFallenByUptoSaid : Prop := fnExactFallenByUptoRow.holds Try.pinned (OpenSpec.upto fnExactFallenBySpec)

/-- 'laws.FnExactSpeedAt', WHERE WHAT IT READS IS OF BULK AT MOST 1048576: true; the input reads as it did. -/
def fnExactSpeedAtUptoRow : OpenClaim := { program := "ytkjdcbgliekjnaa", sum := "79dea31e05afe6aa9711db9b9d494908c7b4fd968f14b7563bde60c93f8894d0", func := "loop.example/g01302/laws.FnExactSpeedAt", spec := "fnExactSpeedAt", inPlace := ["math.Float64bits", "math.Float64frombits"], unfollowed := true, recurses := true, apart := false, narrowed := true }
def FnExactSpeedAtUptoSaid : Prop := fnExactSpeedAtUptoRow.holds Try.pinned (OpenSpec.upto fnExactSpeedAtSpec)

/-- 'laws.FnExactPipeFlow', WHERE WHAT IT READS IS OF BULK AT MOST 1048576: true; the input reads as it did. -/
def fnExactPipeFlowUptoRow : OpenClaim := { program := "ytkjdcbgliekjnaa", sum := "79dea31e05afe6aa9711db9b9d494908c7b4fd968f14b7563bde60c93f8894d0", func := "loop.example/g01302/laws.FnExactPipeFlow", spec := "fnExactPipeFlow", inPlace := ["math.sqrt", "math.Float64bits", "math.Float64frombits"], apart := false, narrowed := true }
def FnExactPipeFlowUptoSaid : Prop := fnExactPipeFlowUptoRow.holds Try.pinned (OpenSpec.upto fnExactPipeFlowSpec)

/-- 'laws.FnExactHeadAt', WHERE WHAT IT READS IS OF BULK AT MOST 1048576: true; the input reads as it did. -/
def fnExactHeadAtUptoRow : OpenClaim := { program := "ytkjdcbgliekjnaa", sum := "79dea31e05afe6aa9711db9b9d494908c7b4fd968f14b7563bde60c93f8894d0", func := "loop.example/g01302/laws.FnExactHeadAt", spec := "fnExactHeadAt", inPlace := ["math.Float64bits", "math.Float64frombits"], unfollowed := true, recurses := true, apart := false, narrowed := true }
def FnExactHeadAtUptoSaid : Prop := fnExactHeadAtUptoRow.holds Try.pinned (OpenSpec.upto fnExactHeadAtSpec)

/-- 'laws.FnExactPushAt', WHERE WHAT IT READS IS OF BULK AT MOST 1048576: true; the input reads as it did. -/
def fnExactPushAtUptoRow : OpenClaim := { program := "ytkjdcbgliekjnaa", sum := "79dea31e05afe6aa9711db9b9d494908c7b4fd968f14b7563bde60c93f8894d0", func := "loop.example/g01302/laws.FnExactPushAt", spec := "fnExactPushAt", inPlace := ["math.Float64bits", "math.Float64frombits"], unfollowed := true, recurses := true, apart := false, narrowed := true }
def FnExactPushAtUptoSaid : Prop := fnExactPushAtUptoRow.holds Try.pinned (OpenSpec.upto fnExactPushAtSpec)

/-- 'laws.FnExactStepSnow', WHERE WHAT IT READS IS OF BULK AT MOST 1048576: true; the input reads as it did. -/
def fnExactStepSnowUptoRow : OpenClaim := { program := "ytkjdcbgliekjnaa", sum := "79dea31e05afe6aa9711db9b9d494908c7b4fd968f14b7563bde60c93f8894d0", func := "loop.example/g01302/laws.FnExactStepSnow", spec := "fnExactStepSnow", inPlace := ["math.Float64bits", "math.Float64frombits"], unfollowed := true, recurses := true, apart := false, narrowed := true }
def FnExactStepSnowUptoSaid : Prop := fnExactStepSnowUptoRow.holds Try.pinned (OpenSpec.upto fnExactStepSnowSpec)

/-- 'laws.FnExactGateUnder', WHERE WHAT IT READS IS OF BULK AT MOST 1048576: true; the input reads as it did. -/
def fnExactGateUnderUptoRow : OpenClaim := { program := "ytkjdcbgliekjnaa", sum := "79dea31e05afe6aa9711db9b9d494908c7b4fd968f14b7563bde60c93f8894d0", func := "loop.example/g01302/laws.FnExactGateUnder", spec := "fnExactGateUnder", inPlace := ["math.sqrt", "math.Float64bits", "math.Float64frombits"], unfollowed := true, recurses := true, apart := false, narrowed := true }
def FnExactGateUnderUptoSaid : Prop := fnExactGateUnderUptoRow.holds Try.pinned (OpenSpec.upto fnExactGateUnderSpec)

/-- 'laws.FnExactSpreadRain', WHERE WHAT IT READS IS OF BULK AT MOST 1048576: true; the input reads as it did. -/
def fnExactSpreadRainUptoRow : OpenClaim := { program := "ytkjdcbgliekjnaa", sum := "79dea31e05afe6aa9711db9b9d494908c7b4fd968f14b7563bde60c93f8894d0", func := "loop.example/g01302/laws.FnExactSpreadRain", spec := "fnExactSpreadRain", inPlace := ["math.Float64bits", "math.Float64frombits"], unfollowed := true, recurses := true, apart := false, narrowed := true }
def FnExactSpreadRainUptoSaid : Prop := fnExactSpreadRainUptoRow.holds Try.pinned (OpenSpec.upto fnExactSpreadRainSpec)

/-- 'laws.FnExactWeirOver', WHERE WHAT IT READS IS OF BULK AT MOST 1048576: true; the input reads as it did. -/
def fnExactWeirOverUptoRow : OpenClaim := { program := "ytkjdcbgliekjnaa", sum := "79dea31e05afe6aa9711db9b9d494908c7b4fd968f14b7563bde60c93f8894d0", func := "loop.example/g01302/laws.FnExactWeirOver", spec := "fnExactWeirOver", inPlace := ["math.sqrt", "math.Float64bits", "math.Float64frombits"], unfollowed := true, recurses := true, apart := false, narrowed := true }
def FnExactWeirOverUptoSaid : Prop := fnExactWeirOverUptoRow.holds Try.pinned (OpenSpec.upto fnExactWeirOverSpec)

/-- 'laws.FnExactWetAt', WHERE WHAT IT READS IS OF BULK AT MOST 1048576: true; the input reads as it did. -/
def fnExactWetAtUptoRow : OpenClaim := { program := "ytkjdcbgliekjnaa", sum := "79dea31e05afe6aa9711db9b9d494908c7b4fd968f14b7563bde60c93f8894d0", func := "loop.example/g01302/laws.FnExactWetAt", spec := "fnExactWetAt", inPlace := ["math.sqrt", "math.Float64bits", "math.Float64frombits"], unfollowed := true, recurses := true, apart := false, narrowed := true }
def FnExactWetAtUptoSaid : Prop := fnExactWetAtUptoRow.holds Try.pinned (OpenSpec.upto fnExactWetAtSpec)

/-- 'laws.FnExactCriticalDepth', WHERE WHAT IT READS IS OF BULK AT MOST 1048576: true; the input reads as it did. -/
def fnExactCriticalDepthUptoRow : OpenClaim := { program := "ytkjdcbgliekjnaa", sum := "79dea31e05afe6aa9711db9b9d494908c7b4fd968f14b7563bde60c93f8894d0", func := "loop.example/g01302/laws.FnExactCriticalDepth", spec := "fnExactCriticalDepth", inPlace := ["math.Float64bits", "math.Float64frombits"], unfollowed := true, recurses := true, apart := false, narrowed := true }
def FnExactCriticalDepthUptoSaid : Prop := fnExactCriticalDepthUptoRow.holds Try.pinned (OpenSpec.upto fnExactCriticalDepthSpec)

/-- 'laws.FnExactLevelFor', WHERE WHAT IT READS IS OF BULK AT MOST 1048576: true; the input reads as it did. -/
def fnExactLevelForUptoRow : OpenClaim := { program := "ytkjdcbgliekjnaa", sum := "79dea31e05afe6aa9711db9b9d494908c7b4fd968f14b7563bde60c93f8894d0", func := "loop.example/g01302/laws.FnExactLevelFor", spec := "fnExactLevelFor", inPlace := ["math.Float64frombits", "math.Float64bits"], apart := false, narrowed := true }
def FnExactLevelForUptoSaid : Prop := fnExactLevelForUptoRow.holds Try.pinned (OpenSpec.upto fnExactLevelForSpec)

end Rows
end Go.Proofs.Ytkjdcbgliekjnaa
