/-
  No cell of these rows narrows 'for every input' (looked for: loops, veiled, ifaces, maps, wideKeys, modest, calm, conditions, laid).
  DERIVED. THE GIVEN ROWS OF THIS SEAT. 12 by the template 'for every input the law returns true; each argument reads behind the call as it read before'; 0 by the template 'total and deterministic' (their statements: YtckmonpgflidkaaTotals.lean).
  GIVEN WITH THE SEED: the statements are not yours to turn. If you find one false, say at which input.
  Laid BY PROGRAM, IN A SANDBOX (cutbox-rows.mjs): the forced cells as the released guide's own fill.sh prints them over the translation 9390a7a871f8ed68… (all of the seat's roots in one cut). By AI agents, Wed Nov 11 2026. No macro, syntax, notation, axiom, sorry.
-/
import Derived.Test.YtckmonpgflidkaaChecked
import GoSem.Claim
import GoSem.ClaimJoined
import GoSem.ClaimMapViews
import Derived.JoinedTies
import Derived.KernelRfl
namespace Go.Proofs.Ytckmonpgflidkaa
/- THE CELL 'sum', in the pinned program and in every row, IS THE sha256 OF THE DUMP (.gsa) THAT YtckmonpgflidkaaProg.lean LOADS. Nothing in Lean hashes anything: it is a label: what it is worth is what the hold of that sum in a sandbox is worth. -/
noncomputable def Try.pinned : Pinned := { name := "ytckmonpgflidkaa", sum := "9390a7a871f8ed68aabf0a22e9855641add7de940755472341bad2931df72eb2", checked := Try.checked }
namespace Rows
def none {H : Type} : Left H := { results := [], args := [] }

/-- 'laws.FnExactSameSnow': WHATEVER THE INPUT: true; the input reads as it did. -/
def fnExactSameSnowSpec : ChangeSpec := { name := "fnExactSameSnow", fn := fun _ => fun
  | [d1, d2] => { results := [.lit (.bool true)], args := [d1, d2] }
  | _ => none }
def fnExactSameSnowRow : OpenClaim := { program := "ytckmonpgflidkaa", sum := "9390a7a871f8ed68aabf0a22e9855641add7de940755472341bad2931df72eb2", func := "loop.example/g01302/laws.FnExactSameSnow", spec := "fnExactSameSnow", inPlace := ["math.Float32bits", "math.Float64bits"], unfollowed := true, recurses := true, apart := false }
def FnExactSameSnowSaid : Prop := fnExactSameSnowRow.holds Try.pinned (OpenSpec.ofChange fnExactSameSnowSpec)

/-- ITS FALSE NEIGHBOUR: 'it returns false'. Refute it at one input. -/
def fnExactSameSnowWrong : ChangeSpec := { name := "fnExactSameSnow", fn := fun _ => fun
  | [d1, d2] => { results := [.lit (.bool false)], args := [d1, d2] }
  | _ => none }
def FnExactSameSnowWrongFalsely : Prop := fnExactSameSnowRow.holds Try.pinned (OpenSpec.ofChange fnExactSameSnowWrong)

/-- 'laws.FnExactSameSection': WHATEVER THE INPUT: true; the input reads as it did. -/
def fnExactSameSectionSpec : ChangeSpec := { name := "fnExactSameSection", fn := fun _ => fun
  | [d1, d2] => { results := [.lit (.bool true)], args := [d1, d2] }
  | _ => none }
def fnExactSameSectionRow : OpenClaim := { program := "ytckmonpgflidkaa", sum := "9390a7a871f8ed68aabf0a22e9855641add7de940755472341bad2931df72eb2", func := "loop.example/g01302/laws.FnExactSameSection", spec := "fnExactSameSection", inPlace := ["math.Float32bits", "math.Float64bits"], unfollowed := true, recurses := true, apart := false }
def FnExactSameSectionSaid : Prop := fnExactSameSectionRow.holds Try.pinned (OpenSpec.ofChange fnExactSameSectionSpec)

/-- ITS FALSE NEIGHBOUR: 'it returns false'. Refute it at one input. -/
def fnExactSameSectionWrong : ChangeSpec := { name := "fnExactSameSection", fn := fun _ => fun
  | [d1, d2] => { results := [.lit (.bool false)], args := [d1, d2] }
  | _ => none }
def FnExactSameSectionWrongFalsely : Prop := fnExactSameSectionRow.holds Try.pinned (OpenSpec.ofChange fnExactSameSectionWrong)

/-- 'laws.FnExactSameSoil': WHATEVER THE INPUT: true; the input reads as it did. -/
def fnExactSameSoilSpec : ChangeSpec := { name := "fnExactSameSoil", fn := fun _ => fun
  | [d1, d2] => { results := [.lit (.bool true)], args := [d1, d2] }
  | _ => none }
def fnExactSameSoilRow : OpenClaim := { program := "ytckmonpgflidkaa", sum := "9390a7a871f8ed68aabf0a22e9855641add7de940755472341bad2931df72eb2", func := "loop.example/g01302/laws.FnExactSameSoil", spec := "fnExactSameSoil", inPlace := ["math.Float32bits", "math.Float64bits"], unfollowed := true, recurses := true, apart := false }
def FnExactSameSoilSaid : Prop := fnExactSameSoilRow.holds Try.pinned (OpenSpec.ofChange fnExactSameSoilSpec)

/-- ITS FALSE NEIGHBOUR: 'it returns false'. Refute it at one input. -/
def fnExactSameSoilWrong : ChangeSpec := { name := "fnExactSameSoil", fn := fun _ => fun
  | [d1, d2] => { results := [.lit (.bool false)], args := [d1, d2] }
  | _ => none }
def FnExactSameSoilWrongFalsely : Prop := fnExactSameSoilRow.holds Try.pinned (OpenSpec.ofChange fnExactSameSoilWrong)

/-- 'laws.FnExactValidSoil': WHATEVER THE INPUT: true; the input reads as it did. -/
def fnExactValidSoilSpec : ChangeSpec := { name := "fnExactValidSoil", fn := fun _ => fun
  | [d] => { results := [.lit (.bool true)], args := [d] }
  | _ => none }
def fnExactValidSoilRow : OpenClaim := { program := "ytckmonpgflidkaa", sum := "9390a7a871f8ed68aabf0a22e9855641add7de940755472341bad2931df72eb2", func := "loop.example/g01302/laws.FnExactValidSoil", spec := "fnExactValidSoil", inPlace := ["math.Float64bits", "math.Float64frombits"], unfollowed := true, recurses := true, apart := false }
def FnExactValidSoilSaid : Prop := fnExactValidSoilRow.holds Try.pinned (OpenSpec.ofChange fnExactValidSoilSpec)

/-- ITS FALSE NEIGHBOUR: 'it returns false'. Refute it at one input. -/
def fnExactValidSoilWrong : ChangeSpec := { name := "fnExactValidSoil", fn := fun _ => fun
  | [d] => { results := [.lit (.bool false)], args := [d] }
  | _ => none }
def FnExactValidSoilWrongFalsely : Prop := fnExactValidSoilRow.holds Try.pinned (OpenSpec.ofChange fnExactValidSoilWrong)

/-- 'laws.FnExactValidSnow': WHATEVER THE INPUT: true; the input reads as it did. -/
def fnExactValidSnowSpec : ChangeSpec := { name := "fnExactValidSnow", fn := fun _ => fun
  | [d] => { results := [.lit (.bool true)], args := [d] }
  | _ => none }
def fnExactValidSnowRow : OpenClaim := { program := "ytckmonpgflidkaa", sum := "9390a7a871f8ed68aabf0a22e9855641add7de940755472341bad2931df72eb2", func := "loop.example/g01302/laws.FnExactValidSnow", spec := "fnExactValidSnow", inPlace := ["math.Float64bits", "math.Float64frombits"], unfollowed := true, recurses := true, apart := false }
def FnExactValidSnowSaid : Prop := fnExactValidSnowRow.holds Try.pinned (OpenSpec.ofChange fnExactValidSnowSpec)

/-- ITS FALSE NEIGHBOUR: 'it returns false'. Refute it at one input. -/
def fnExactValidSnowWrong : ChangeSpec := { name := "fnExactValidSnow", fn := fun _ => fun
  | [d] => { results := [.lit (.bool false)], args := [d] }
  | _ => none }
def FnExactValidSnowWrongFalsely : Prop := fnExactValidSnowRow.holds Try.pinned (OpenSpec.ofChange fnExactValidSnowWrong)

/-- 'laws.FnExactValidStorm': WHATEVER THE INPUT: true; the input reads as it did. -/
def fnExactValidStormSpec : ChangeSpec := { name := "fnExactValidStorm", fn := fun _ => fun
  | [d] => { results := [.lit (.bool true)], args := [d] }
  | _ => none }
def fnExactValidStormRow : OpenClaim := { program := "ytckmonpgflidkaa", sum := "9390a7a871f8ed68aabf0a22e9855641add7de940755472341bad2931df72eb2", func := "loop.example/g01302/laws.FnExactValidStorm", spec := "fnExactValidStorm", inPlace := ["math.Float64bits", "math.Float64frombits"], unfollowed := true, recurses := true, apart := false }
def FnExactValidStormSaid : Prop := fnExactValidStormRow.holds Try.pinned (OpenSpec.ofChange fnExactValidStormSpec)

/-- ITS FALSE NEIGHBOUR: 'it returns false'. Refute it at one input. -/
def fnExactValidStormWrong : ChangeSpec := { name := "fnExactValidStorm", fn := fun _ => fun
  | [d] => { results := [.lit (.bool false)], args := [d] }
  | _ => none }
def FnExactValidStormWrongFalsely : Prop := fnExactValidStormRow.holds Try.pinned (OpenSpec.ofChange fnExactValidStormWrong)

/-- 'laws.FnExactValidSection': WHATEVER THE INPUT: true; the input reads as it did. -/
def fnExactValidSectionSpec : ChangeSpec := { name := "fnExactValidSection", fn := fun _ => fun
  | [d] => { results := [.lit (.bool true)], args := [d] }
  | _ => none }
def fnExactValidSectionRow : OpenClaim := { program := "ytckmonpgflidkaa", sum := "9390a7a871f8ed68aabf0a22e9855641add7de940755472341bad2931df72eb2", func := "loop.example/g01302/laws.FnExactValidSection", spec := "fnExactValidSection", inPlace := ["math.Float64bits", "math.Float64frombits"], unfollowed := true, recurses := true, apart := false }
def FnExactValidSectionSaid : Prop := fnExactValidSectionRow.holds Try.pinned (OpenSpec.ofChange fnExactValidSectionSpec)

/-- ITS FALSE NEIGHBOUR: 'it returns false'. Refute it at one input. -/
def fnExactValidSectionWrong : ChangeSpec := { name := "fnExactValidSection", fn := fun _ => fun
  | [d] => { results := [.lit (.bool false)], args := [d] }
  | _ => none }
def FnExactValidSectionWrongFalsely : Prop := fnExactValidSectionRow.holds Try.pinned (OpenSpec.ofChange fnExactValidSectionWrong)

/-- 'laws.FnExactIsRain': WHATEVER THE INPUT: true; the input reads as it did. -/
def fnExactIsRainSpec : ChangeSpec := { name := "fnExactIsRain", fn := fun _ => fun
  | [d] => { results := [.lit (.bool true)], args := [d] }
  | _ => none }
def fnExactIsRainRow : OpenClaim := { program := "ytckmonpgflidkaa", sum := "9390a7a871f8ed68aabf0a22e9855641add7de940755472341bad2931df72eb2", func := "loop.example/g01302/laws.FnExactIsRain", spec := "fnExactIsRain", inPlace := ["math.Float64bits", "math.Float64frombits"], unfollowed := true, recurses := true, apart := false }
def FnExactIsRainSaid : Prop := fnExactIsRainRow.holds Try.pinned (OpenSpec.ofChange fnExactIsRainSpec)

/-- ITS FALSE NEIGHBOUR: 'it returns false'. Refute it at one input. -/
def fnExactIsRainWrong : ChangeSpec := { name := "fnExactIsRain", fn := fun _ => fun
  | [d] => { results := [.lit (.bool false)], args := [d] }
  | _ => none }
def FnExactIsRainWrongFalsely : Prop := fnExactIsRainRow.holds Try.pinned (OpenSpec.ofChange fnExactIsRainWrong)

/-- 'laws.FnExactPipeLoss': WHATEVER THE INPUT: true; the input reads as it did. -/
def fnExactPipeLossSpec : ChangeSpec := { name := "fnExactPipeLoss", fn := fun _ => fun
  | [d1, d2, d3, d4] => { results := [.lit (.bool true)], args := [d1, d2, d3, d4] }
  | _ => none }
def fnExactPipeLossRow : OpenClaim := { program := "ytckmonpgflidkaa", sum := "9390a7a871f8ed68aabf0a22e9855641add7de940755472341bad2931df72eb2", func := "loop.example/g01302/laws.FnExactPipeLoss", spec := "fnExactPipeLoss", inPlace := ["math.Float64bits", "math.Float64frombits"], apart := false }
def FnExactPipeLossSaid : Prop := fnExactPipeLossRow.holds Try.pinned (OpenSpec.ofChange fnExactPipeLossSpec)

/-- ITS FALSE NEIGHBOUR: 'it returns false'. Refute it at one input. -/
def fnExactPipeLossWrong : ChangeSpec := { name := "fnExactPipeLoss", fn := fun _ => fun
  | [d1, d2, d3, d4] => { results := [.lit (.bool false)], args := [d1, d2, d3, d4] }
  | _ => none }
def FnExactPipeLossWrongFalsely : Prop := fnExactPipeLossRow.holds Try.pinned (OpenSpec.ofChange fnExactPipeLossWrong)

/-- 'laws.FnExactCurveRunoff': WHATEVER THE INPUT: true; the input reads as it did. -/
def fnExactCurveRunoffSpec : ChangeSpec := { name := "fnExactCurveRunoff", fn := fun _ => fun
  | [d1, d2] => { results := [.lit (.bool true)], args := [d1, d2] }
  | _ => none }
def fnExactCurveRunoffRow : OpenClaim := { program := "ytckmonpgflidkaa", sum := "9390a7a871f8ed68aabf0a22e9855641add7de940755472341bad2931df72eb2", func := "loop.example/g01302/laws.FnExactCurveRunoff", spec := "fnExactCurveRunoff", inPlace := ["math.Float64bits", "math.Float64frombits"], unfollowed := true, recurses := true, apart := false }
def FnExactCurveRunoffSaid : Prop := fnExactCurveRunoffRow.holds Try.pinned (OpenSpec.ofChange fnExactCurveRunoffSpec)

/-- ITS FALSE NEIGHBOUR: 'it returns false'. Refute it at one input. -/
def fnExactCurveRunoffWrong : ChangeSpec := { name := "fnExactCurveRunoff", fn := fun _ => fun
  | [d1, d2] => { results := [.lit (.bool false)], args := [d1, d2] }
  | _ => none }
def FnExactCurveRunoffWrongFalsely : Prop := fnExactCurveRunoffRow.holds Try.pinned (OpenSpec.ofChange fnExactCurveRunoffWrong)

/-- 'laws.FnExactCanTake': WHATEVER THE INPUT: true; the input reads as it did. -/
def fnExactCanTakeSpec : ChangeSpec := { name := "fnExactCanTake", fn := fun _ => fun
  | [d] => { results := [.lit (.bool true)], args := [d] }
  | _ => none }
def fnExactCanTakeRow : OpenClaim := { program := "ytckmonpgflidkaa", sum := "9390a7a871f8ed68aabf0a22e9855641add7de940755472341bad2931df72eb2", func := "loop.example/g01302/laws.FnExactCanTake", spec := "fnExactCanTake", inPlace := ["math.Float64bits", "math.Float64frombits"], unfollowed := true, recurses := true, apart := false }
def FnExactCanTakeSaid : Prop := fnExactCanTakeRow.holds Try.pinned (OpenSpec.ofChange fnExactCanTakeSpec)

/-- ITS FALSE NEIGHBOUR: 'it returns false'. Refute it at one input. -/
def fnExactCanTakeWrong : ChangeSpec := { name := "fnExactCanTake", fn := fun _ => fun
  | [d] => { results := [.lit (.bool false)], args := [d] }
  | _ => none }
def FnExactCanTakeWrongFalsely : Prop := fnExactCanTakeRow.holds Try.pinned (OpenSpec.ofChange fnExactCanTakeWrong)

/-- 'laws.FnExactSameStorms': WHATEVER THE INPUT: true; the input reads as it did. -/
def fnExactSameStormsSpec : ChangeSpec := { name := "fnExactSameStorms", fn := fun _ => fun
  | [d1, d2] => { results := [.lit (.bool true)], args := [d1, d2] }
  | _ => none }
def fnExactSameStormsRow : OpenClaim := { program := "ytckmonpgflidkaa", sum := "9390a7a871f8ed68aabf0a22e9855641add7de940755472341bad2931df72eb2", func := "loop.example/g01302/laws.FnExactSameStorms", spec := "fnExactSameStorms", inPlace := ["math.Float32bits", "math.Float64bits"], unfollowed := true, recurses := true, apart := false }
def FnExactSameStormsSaid : Prop := fnExactSameStormsRow.holds Try.pinned (OpenSpec.ofChange fnExactSameStormsSpec)

/-- ITS FALSE NEIGHBOUR: 'it returns false'. Refute it at one input. -/
def fnExactSameStormsWrong : ChangeSpec := { name := "fnExactSameStorms", fn := fun _ => fun
  | [d1, d2] => { results := [.lit (.bool false)], args := [d1, d2] }
  | _ => none }
def FnExactSameStormsWrongFalsely : Prop := fnExactSameStormsRow.holds Try.pinned (OpenSpec.ofChange fnExactSameStormsWrong)

/- THE SECOND FORM. 'bulk': how many values and letters a reading holds, each counted each time it is reached (what is shared counts as often as it is met; a slice's spare places count too). A statement '..UptoSaid' is the law's where the arguments, and the package variables that the reading takes, are together of bulk at most 1048576: NARROWER than '..Said'. Prove '..Said' where nothing that the law and all that it calls make is longer than what came in: it says more and counts as full. Else prove '..UptoSaid'. A law counts once. -/
mutual
def uptoBulk {H : Type} : DataW H → Nat
  | .lit (.string bytes) => bytes.length + 1
  | .lit _ => 1
  | .nil => 1
  | .ptr d => uptoBulk d + 1
  | .slice elems spare => uptoBulkAll elems + uptoBulkAll spare + 1
  | .agg parts => uptoBulkAll parts + 1
  | .iface _ d => uptoBulk d + 1
  | .map entries => uptoBulkEntries entries + 1
  | .held _ => 1
def uptoBulkAll {H : Type} : List (DataW H) → Nat
  | [] => 0
  | d :: r => uptoBulk d + uptoBulkAll r
def uptoBulkEntries {H : Type} : List (Lit × DataW H) → Nat
  | [] => 0
  | x :: r => uptoBulkEntry x + uptoBulkEntries r
def uptoBulkEntry {H : Type} : Lit × DataW H → Nat
  | (.string bytes, d) => bytes.length + uptoBulk d + 1
  | (_, d) => uptoBulk d + 1
 end
def uptoSmall : (H : Type) → List (DataW H) → Bool := fun _ ds => decide (uptoBulkAll ds ≤ 1048576)
def OpenSpec.upto (s : _root_.Go.ChangeSpec) : _root_.Go.OpenSpec := { _root_.Go.OpenSpec.ofChange s with cond := some uptoSmall }

/-- 'laws.FnExactSameSnow', WHERE WHAT IT READS IS OF BULK AT MOST 1048576: true; the input reads as it did. -/
def fnExactSameSnowUptoRow : OpenClaim := { program := "ytckmonpgflidkaa", sum := "9390a7a871f8ed68aabf0a22e9855641add7de940755472341bad2931df72eb2", func := "loop.example/g01302/laws.FnExactSameSnow", spec := "fnExactSameSnow", inPlace := ["math.Float32bits", "math.Float64bits"], unfollowed := true, recurses := true, apart := false, narrowed := true }
def FnExactSameSnowUptoSaid : Prop := fnExactSameSnowUptoRow.holds Try.pinned (OpenSpec.upto fnExactSameSnowSpec)

/-- 'laws.FnExactSameSection', WHERE WHAT IT READS IS OF BULK AT MOST 1048576: true; the input reads as it did. -/
def fnExactSameSectionUptoRow : OpenClaim := { program := "ytckmonpgflidkaa", sum := "9390a7a871f8ed68aabf0a22e9855641add7de940755472341bad2931df72eb2", func := "loop.example/g01302/laws.FnExactSameSection", spec := "fnExactSameSection", inPlace := ["math.Float32bits", "math.Float64bits"], unfollowed := true, recurses := true, apart := false, narrowed := true }
def FnExactSameSectionUptoSaid : Prop := fnExactSameSectionUptoRow.holds Try.pinned (OpenSpec.upto fnExactSameSectionSpec)

/-- 'laws.FnExactSameSoil', WHERE WHAT IT READS IS OF BULK AT MOST 1048576: true; the input reads as it did. -/
def fnExactSameSoilUptoRow : OpenClaim := { program := "ytckmonpgflidkaa", sum := "9390a7a871f8ed68aabf0a22e9855641add7de940755472341bad2931df72eb2", func := "loop.example/g01302/laws.FnExactSameSoil", spec := "fnExactSameSoil", inPlace := ["math.Float32bits", "math.Float64bits"], unfollowed := true, recurses := true, apart := false, narrowed := true }
def FnExactSameSoilUptoSaid : Prop := fnExactSameSoilUptoRow.holds Try.pinned (OpenSpec.upto fnExactSameSoilSpec)

/-- 'laws.FnExactValidSoil', WHERE WHAT IT READS IS OF BULK AT MOST 1048576: true; the input reads as it did. -/
def fnExactValidSoilUptoRow : OpenClaim := { program := "ytckmonpgflidkaa", sum := "9390a7a871f8ed68aabf0a22e9855641add7de940755472341bad2931df72eb2", func := "loop.example/g01302/laws.FnExactValidSoil", spec := "fnExactValidSoil", inPlace := ["math.Float64bits", "math.Float64frombits"], unfollowed := true, recurses := true, apart := false, narrowed := true }
def FnExactValidSoilUptoSaid : Prop := fnExactValidSoilUptoRow.holds Try.pinned (OpenSpec.upto fnExactValidSoilSpec)

/-- 'laws.FnExactValidSnow', WHERE WHAT IT READS IS OF BULK AT MOST 1048576: true; the input reads as it did. -/
def fnExactValidSnowUptoRow : OpenClaim := { program := "ytckmonpgflidkaa", sum := "9390a7a871f8ed68aabf0a22e9855641add7de940755472341bad2931df72eb2", func := "loop.example/g01302/laws.FnExactValidSnow", spec := "fnExactValidSnow", inPlace := ["math.Float64bits", "math.Float64frombits"], unfollowed := true, recurses := true, apart := false, narrowed := true }
def FnExactValidSnowUptoSaid : Prop := fnExactValidSnowUptoRow.holds Try.pinned (OpenSpec.upto fnExactValidSnowSpec)

/-- 'laws.FnExactValidStorm', WHERE WHAT IT READS IS OF BULK AT MOST 1048576: true; the input reads as it did. -/
def fnExactValidStormUptoRow : OpenClaim := { program := "ytckmonpgflidkaa", sum := "9390a7a871f8ed68aabf0a22e9855641add7de940755472341bad2931df72eb2", func := "loop.example/g01302/laws.FnExactValidStorm", spec := "fnExactValidStorm", inPlace := ["math.Float64bits", "math.Float64frombits"], unfollowed := true, recurses := true, apart := false, narrowed := true }
def FnExactValidStormUptoSaid : Prop := fnExactValidStormUptoRow.holds Try.pinned (OpenSpec.upto fnExactValidStormSpec)

/-- 'laws.FnExactValidSection', WHERE WHAT IT READS IS OF BULK AT MOST 1048576: true; the input reads as it did. -/
def fnExactValidSectionUptoRow : OpenClaim := { program := "ytckmonpgflidkaa", sum := "9390a7a871f8ed68aabf0a22e9855641add7de940755472341bad2931df72eb2", func := "loop.example/g01302/laws.FnExactValidSection", spec := "fnExactValidSection", inPlace := ["math.Float64bits", "math.Float64frombits"], unfollowed := true, recurses := true, apart := false, narrowed := true }
def FnExactValidSectionUptoSaid : Prop := fnExactValidSectionUptoRow.holds Try.pinned (OpenSpec.upto fnExactValidSectionSpec)

/-- 'laws.FnExactIsRain', WHERE WHAT IT READS IS OF BULK AT MOST 1048576: true; the input reads as it did. -/
def fnExactIsRainUptoRow : OpenClaim := { program := "ytckmonpgflidkaa", sum := "9390a7a871f8ed68aabf0a22e9855641add7de940755472341bad2931df72eb2", func := "loop.example/g01302/laws.FnExactIsRain", spec := "fnExactIsRain", inPlace := ["math.Float64bits", "math.Float64frombits"], unfollowed := true, recurses := true, apart := false, narrowed := true }
def FnExactIsRainUptoSaid : Prop := fnExactIsRainUptoRow.holds Try.pinned (OpenSpec.upto fnExactIsRainSpec)

/-- 'laws.FnExactPipeLoss', WHERE WHAT IT READS IS OF BULK AT MOST 1048576: true; the input reads as it did. -/
def fnExactPipeLossUptoRow : OpenClaim := { program := "ytckmonpgflidkaa", sum := "9390a7a871f8ed68aabf0a22e9855641add7de940755472341bad2931df72eb2", func := "loop.example/g01302/laws.FnExactPipeLoss", spec := "fnExactPipeLoss", inPlace := ["math.Float64bits", "math.Float64frombits"], apart := false, narrowed := true }
def FnExactPipeLossUptoSaid : Prop := fnExactPipeLossUptoRow.holds Try.pinned (OpenSpec.upto fnExactPipeLossSpec)

/-- 'laws.FnExactCurveRunoff', WHERE WHAT IT READS IS OF BULK AT MOST 1048576: true; the input reads as it did. -/
def fnExactCurveRunoffUptoRow : OpenClaim := { program := "ytckmonpgflidkaa", sum := "9390a7a871f8ed68aabf0a22e9855641add7de940755472341bad2931df72eb2", func := "loop.example/g01302/laws.FnExactCurveRunoff", spec := "fnExactCurveRunoff", inPlace := ["math.Float64bits", "math.Float64frombits"], unfollowed := true, recurses := true, apart := false, narrowed := true }
def FnExactCurveRunoffUptoSaid : Prop := fnExactCurveRunoffUptoRow.holds Try.pinned (OpenSpec.upto fnExactCurveRunoffSpec)

/-- 'laws.FnExactCanTake', WHERE WHAT IT READS IS OF BULK AT MOST 1048576: true; the input reads as it did. -/
def fnExactCanTakeUptoRow : OpenClaim := { program := "ytckmonpgflidkaa", sum := "9390a7a871f8ed68aabf0a22e9855641add7de940755472341bad2931df72eb2", func := "loop.example/g01302/laws.FnExactCanTake", spec := "fnExactCanTake", inPlace := ["math.Float64bits", "math.Float64frombits"], unfollowed := true, recurses := true, apart := false, narrowed := true }
def FnExactCanTakeUptoSaid : Prop := fnExactCanTakeUptoRow.holds Try.pinned (OpenSpec.upto fnExactCanTakeSpec)

/-- 'laws.FnExactSameStorms', WHERE WHAT IT READS IS OF BULK AT MOST 1048576: true; the input reads as it did. -/
def fnExactSameStormsUptoRow : OpenClaim := { program := "ytckmonpgflidkaa", sum := "9390a7a871f8ed68aabf0a22e9855641add7de940755472341bad2931df72eb2", func := "loop.example/g01302/laws.FnExactSameStorms", spec := "fnExactSameStorms", inPlace := ["math.Float32bits", "math.Float64bits"], unfollowed := true, recurses := true, apart := false, narrowed := true }
def FnExactSameStormsUptoSaid : Prop := fnExactSameStormsUptoRow.holds Try.pinned (OpenSpec.upto fnExactSameStormsSpec)

end Rows
end Go.Proofs.Ytckmonpgflidkaa
