/-
  No cell of these rows narrows 'for every input' (looked for: loops, veiled, ifaces, maps, wideKeys, modest, calm, conditions, laid).
  DERIVED. THE GIVEN ROWS OF THIS SEAT. 12 by the template 'for every input the law returns true; each argument reads behind the call as it read before'; 0 by the template 'total and deterministic' (their statements: YtojmgleljmoidaaTotals.lean).
  GIVEN WITH THE SEED: the statements are not yours to turn. If you find one false, say at which input.
  Laid BY PROGRAM, IN A SANDBOX (cutbox-rows.mjs): the forced cells as the released guide's own fill.sh prints them over the translation 9a8ee9448507f83e… (all of the seat's roots in one cut). By AI agents, Wed Nov 11 2026. No macro, syntax, notation, axiom, sorry.
-/
import Derived.Test.YtojmgleljmoidaaChecked
import GoSem.Claim
import GoSem.ClaimJoined
import GoSem.ClaimMapViews
import Derived.JoinedTies
import Derived.KernelRfl
namespace Go.Proofs.Ytojmgleljmoidaa
/- THE CELL 'sum', in the pinned program and in every row, IS THE sha256 OF THE DUMP (.gsa) THAT YtojmgleljmoidaaProg.lean LOADS. Nothing in Lean hashes anything: it is a label: what it is worth is what the hold of that sum in a sandbox is worth. -/
noncomputable def Try.pinned : Pinned := { name := "ytojmgleljmoidaa", sum := "9a8ee9448507f83e33d74ce2e08eb8a9ff86fcc5313e4c023835095f97f4e57e", checked := Try.checked }
namespace Rows
def none {H : Type} : Left H := { results := [], args := [] }

/-- 'laws.FnExactSpreadRain': WHATEVER THE INPUT: true; the input reads as it did. -/
def fnExactSpreadRainSpec : ChangeSpec := { name := "fnExactSpreadRain", fn := fun _ => fun
  | [d1, d2] => { results := [.lit (.bool true)], args := [d1, d2] }
  | _ => none }
def fnExactSpreadRainRow : OpenClaim := { program := "ytojmgleljmoidaa", sum := "9a8ee9448507f83e33d74ce2e08eb8a9ff86fcc5313e4c023835095f97f4e57e", func := "loop.example/g01302/laws.FnExactSpreadRain", spec := "fnExactSpreadRain", inPlace := ["math.Float64bits", "math.Float64frombits"], unfollowed := true, recurses := true, apart := false }
def FnExactSpreadRainSaid : Prop := fnExactSpreadRainRow.holds Try.pinned (OpenSpec.ofChange fnExactSpreadRainSpec)

/-- ITS FALSE NEIGHBOUR: 'it returns false'. Refute it at one input. -/
def fnExactSpreadRainWrong : ChangeSpec := { name := "fnExactSpreadRain", fn := fun _ => fun
  | [d1, d2] => { results := [.lit (.bool false)], args := [d1, d2] }
  | _ => none }
def FnExactSpreadRainWrongFalsely : Prop := fnExactSpreadRainRow.holds Try.pinned (OpenSpec.ofChange fnExactSpreadRainWrong)

/-- 'laws.FnExactStormsOf': WHATEVER THE INPUT: true; the input reads as it did. -/
def fnExactStormsOfSpec : ChangeSpec := { name := "fnExactStormsOf", fn := fun _ => fun
  | [d1, d2, d3, d4] => { results := [.lit (.bool true)], args := [d1, d2, d3, d4] }
  | _ => none }
def fnExactStormsOfRow : OpenClaim := { program := "ytojmgleljmoidaa", sum := "9a8ee9448507f83e33d74ce2e08eb8a9ff86fcc5313e4c023835095f97f4e57e", func := "loop.example/g01302/laws.FnExactStormsOf", spec := "fnExactStormsOf", inPlace := ["math.Float64bits", "math.Float64frombits"], unfollowed := true, recurses := true, apart := false }
def FnExactStormsOfSaid : Prop := fnExactStormsOfRow.holds Try.pinned (OpenSpec.ofChange fnExactStormsOfSpec)

/-- ITS FALSE NEIGHBOUR: 'it returns false'. Refute it at one input. -/
def fnExactStormsOfWrong : ChangeSpec := { name := "fnExactStormsOf", fn := fun _ => fun
  | [d1, d2, d3, d4] => { results := [.lit (.bool false)], args := [d1, d2, d3, d4] }
  | _ => none }
def FnExactStormsOfWrongFalsely : Prop := fnExactStormsOfRow.holds Try.pinned (OpenSpec.ofChange fnExactStormsOfWrong)

/-- 'laws.FnExactUnitList': WHATEVER THE INPUT: true; the input reads as it did. -/
def fnExactUnitListSpec : ChangeSpec := { name := "fnExactUnitList", fn := fun _ => fun
  | [d1, d2, d3, d4] => { results := [.lit (.bool true)], args := [d1, d2, d3, d4] }
  | _ => none }
def fnExactUnitListRow : OpenClaim := { program := "ytojmgleljmoidaa", sum := "9a8ee9448507f83e33d74ce2e08eb8a9ff86fcc5313e4c023835095f97f4e57e", func := "loop.example/g01302/laws.FnExactUnitList", spec := "fnExactUnitList", inPlace := ["math.Float64frombits", "math.Float64bits"], unfollowed := true, recurses := true, apart := false }
def FnExactUnitListSaid : Prop := fnExactUnitListRow.holds Try.pinned (OpenSpec.ofChange fnExactUnitListSpec)

/-- ITS FALSE NEIGHBOUR: 'it returns false'. Refute it at one input. -/
def fnExactUnitListWrong : ChangeSpec := { name := "fnExactUnitList", fn := fun _ => fun
  | [d1, d2, d3, d4] => { results := [.lit (.bool false)], args := [d1, d2, d3, d4] }
  | _ => none }
def FnExactUnitListWrongFalsely : Prop := fnExactUnitListRow.holds Try.pinned (OpenSpec.ofChange fnExactUnitListWrong)

/-- 'laws.FnExactRunSnow': WHATEVER THE INPUT: true; the input reads as it did. -/
def fnExactRunSnowSpec : ChangeSpec := { name := "fnExactRunSnow", fn := fun _ => fun
  | [d1, d2, d3, d4] => { results := [.lit (.bool true)], args := [d1, d2, d3, d4] }
  | _ => none }
def fnExactRunSnowRow : OpenClaim := { program := "ytojmgleljmoidaa", sum := "9a8ee9448507f83e33d74ce2e08eb8a9ff86fcc5313e4c023835095f97f4e57e", func := "loop.example/g01302/laws.FnExactRunSnow", spec := "fnExactRunSnow", inPlace := ["math.Float64bits", "math.Float64frombits"], unfollowed := true, recurses := true, apart := false }
def FnExactRunSnowSaid : Prop := fnExactRunSnowRow.holds Try.pinned (OpenSpec.ofChange fnExactRunSnowSpec)

/-- ITS FALSE NEIGHBOUR: 'it returns false'. Refute it at one input. -/
def fnExactRunSnowWrong : ChangeSpec := { name := "fnExactRunSnow", fn := fun _ => fun
  | [d1, d2, d3, d4] => { results := [.lit (.bool false)], args := [d1, d2, d3, d4] }
  | _ => none }
def FnExactRunSnowWrongFalsely : Prop := fnExactRunSnowRow.holds Try.pinned (OpenSpec.ofChange fnExactRunSnowWrong)

/-- 'laws.FnExactRunBuckets': WHATEVER THE INPUT: true; the input reads as it did. -/
def fnExactRunBucketsSpec : ChangeSpec := { name := "fnExactRunBuckets", fn := fun _ => fun
  | [d1, d2, d3, d4] => { results := [.lit (.bool true)], args := [d1, d2, d3, d4] }
  | _ => none }
def fnExactRunBucketsRow : OpenClaim := { program := "ytojmgleljmoidaa", sum := "9a8ee9448507f83e33d74ce2e08eb8a9ff86fcc5313e4c023835095f97f4e57e", func := "loop.example/g01302/laws.FnExactRunBuckets", spec := "fnExactRunBuckets", inPlace := ["math.Float64frombits", "math.Float64bits"], unfollowed := true, recurses := true, apart := false }
def FnExactRunBucketsSaid : Prop := fnExactRunBucketsRow.holds Try.pinned (OpenSpec.ofChange fnExactRunBucketsSpec)

/-- ITS FALSE NEIGHBOUR: 'it returns false'. Refute it at one input. -/
def fnExactRunBucketsWrong : ChangeSpec := { name := "fnExactRunBuckets", fn := fun _ => fun
  | [d1, d2, d3, d4] => { results := [.lit (.bool false)], args := [d1, d2, d3, d4] }
  | _ => none }
def FnExactRunBucketsWrongFalsely : Prop := fnExactRunBucketsRow.holds Try.pinned (OpenSpec.ofChange fnExactRunBucketsWrong)

/-- 'laws.FnExactRainList': WHATEVER THE INPUT: true; the input reads as it did. -/
def fnExactRainListSpec : ChangeSpec := { name := "fnExactRainList", fn := fun _ => fun
  | [d1, d2, d3] => { results := [.lit (.bool true)], args := [d1, d2, d3] }
  | _ => none }
def fnExactRainListRow : OpenClaim := { program := "ytojmgleljmoidaa", sum := "9a8ee9448507f83e33d74ce2e08eb8a9ff86fcc5313e4c023835095f97f4e57e", func := "loop.example/g01302/laws.FnExactRainList", spec := "fnExactRainList", inPlace := ["math.Float64bits", "math.Float64frombits"], unfollowed := true, recurses := true, apart := false }
def FnExactRainListSaid : Prop := fnExactRainListRow.holds Try.pinned (OpenSpec.ofChange fnExactRainListSpec)

/-- ITS FALSE NEIGHBOUR: 'it returns false'. Refute it at one input. -/
def fnExactRainListWrong : ChangeSpec := { name := "fnExactRainList", fn := fun _ => fun
  | [d1, d2, d3] => { results := [.lit (.bool false)], args := [d1, d2, d3] }
  | _ => none }
def FnExactRainListWrongFalsely : Prop := fnExactRainListRow.holds Try.pinned (OpenSpec.ofChange fnExactRainListWrong)

/-- 'laws.FnExactRainShared': WHATEVER THE INPUT: true; the input reads as it did. -/
def fnExactRainSharedSpec : ChangeSpec := { name := "fnExactRainShared", fn := fun _ => fun
  | [d1, d2, d3, d4] => { results := [.lit (.bool true)], args := [d1, d2, d3, d4] }
  | _ => none }
def fnExactRainSharedRow : OpenClaim := { program := "ytojmgleljmoidaa", sum := "9a8ee9448507f83e33d74ce2e08eb8a9ff86fcc5313e4c023835095f97f4e57e", func := "loop.example/g01302/laws.FnExactRainShared", spec := "fnExactRainShared", inPlace := ["math.Float64bits", "math.Float64frombits"], unfollowed := true, recurses := true, apart := false }
def FnExactRainSharedSaid : Prop := fnExactRainSharedRow.holds Try.pinned (OpenSpec.ofChange fnExactRainSharedSpec)

/-- ITS FALSE NEIGHBOUR: 'it returns false'. Refute it at one input. -/
def fnExactRainSharedWrong : ChangeSpec := { name := "fnExactRainShared", fn := fun _ => fun
  | [d1, d2, d3, d4] => { results := [.lit (.bool false)], args := [d1, d2, d3, d4] }
  | _ => none }
def FnExactRainSharedWrongFalsely : Prop := fnExactRainSharedRow.holds Try.pinned (OpenSpec.ofChange fnExactRainSharedWrong)

/-- 'laws.FnSoils': WHATEVER THE INPUT: true; the input reads as it did. -/
def fnSoilsSpec : ChangeSpec := { name := "fnSoils", fn := fun _ => fun
  | [d1, d2] => { results := [.lit (.bool true)], args := [d1, d2] }
  | _ => none }
def fnSoilsRow : OpenClaim := { program := "ytojmgleljmoidaa", sum := "9a8ee9448507f83e33d74ce2e08eb8a9ff86fcc5313e4c023835095f97f4e57e", func := "loop.example/g01302/laws.FnSoils", spec := "fnSoils", inPlace := ["math.Float64bits", "math.Float64frombits", "math.Float32bits"], unfollowed := true, recurses := true, apart := false }
def FnSoilsSaid : Prop := fnSoilsRow.holds Try.pinned (OpenSpec.ofChange fnSoilsSpec)

/-- ITS FALSE NEIGHBOUR: 'it returns false'. Refute it at one input. -/
def fnSoilsWrong : ChangeSpec := { name := "fnSoils", fn := fun _ => fun
  | [d1, d2] => { results := [.lit (.bool false)], args := [d1, d2] }
  | _ => none }
def FnSoilsWrongFalsely : Prop := fnSoilsRow.holds Try.pinned (OpenSpec.ofChange fnSoilsWrong)

/-- 'laws.FnSnows': WHATEVER THE INPUT: true; the input reads as it did. -/
def fnSnowsSpec : ChangeSpec := { name := "fnSnows", fn := fun _ => fun
  | [d1, d2] => { results := [.lit (.bool true)], args := [d1, d2] }
  | _ => none }
def fnSnowsRow : OpenClaim := { program := "ytojmgleljmoidaa", sum := "9a8ee9448507f83e33d74ce2e08eb8a9ff86fcc5313e4c023835095f97f4e57e", func := "loop.example/g01302/laws.FnSnows", spec := "fnSnows", inPlace := ["math.Float64bits", "math.Float64frombits", "math.Float32bits"], unfollowed := true, recurses := true, apart := false }
def FnSnowsSaid : Prop := fnSnowsRow.holds Try.pinned (OpenSpec.ofChange fnSnowsSpec)

/-- ITS FALSE NEIGHBOUR: 'it returns false'. Refute it at one input. -/
def fnSnowsWrong : ChangeSpec := { name := "fnSnows", fn := fun _ => fun
  | [d1, d2] => { results := [.lit (.bool false)], args := [d1, d2] }
  | _ => none }
def FnSnowsWrongFalsely : Prop := fnSnowsRow.holds Try.pinned (OpenSpec.ofChange fnSnowsWrong)

/-- 'laws.FnBuckets': WHATEVER THE INPUT: true; the input reads as it did. -/
def fnBucketsSpec : ChangeSpec := { name := "fnBuckets", fn := fun _ => fun
  | [d1, d2] => { results := [.lit (.bool true)], args := [d1, d2] }
  | _ => none }
def fnBucketsRow : OpenClaim := { program := "ytojmgleljmoidaa", sum := "9a8ee9448507f83e33d74ce2e08eb8a9ff86fcc5313e4c023835095f97f4e57e", func := "loop.example/g01302/laws.FnBuckets", spec := "fnBuckets", inPlace := ["math.Float64bits", "math.Float64frombits"], unfollowed := true, recurses := true, apart := false }
def FnBucketsSaid : Prop := fnBucketsRow.holds Try.pinned (OpenSpec.ofChange fnBucketsSpec)

/-- ITS FALSE NEIGHBOUR: 'it returns false'. Refute it at one input. -/
def fnBucketsWrong : ChangeSpec := { name := "fnBuckets", fn := fun _ => fun
  | [d1, d2] => { results := [.lit (.bool false)], args := [d1, d2] }
  | _ => none }
def FnBucketsWrongFalsely : Prop := fnBucketsRow.holds Try.pinned (OpenSpec.ofChange fnBucketsWrong)

/-- 'laws.FnNearRains': WHATEVER THE INPUT: true; the input reads as it did. -/
def fnNearRainsSpec : ChangeSpec := { name := "fnNearRains", fn := fun _ => fun
  | [d1, d2] => { results := [.lit (.bool true)], args := [d1, d2] }
  | _ => none }
def fnNearRainsRow : OpenClaim := { program := "ytojmgleljmoidaa", sum := "9a8ee9448507f83e33d74ce2e08eb8a9ff86fcc5313e4c023835095f97f4e57e", func := "loop.example/g01302/laws.FnNearRains", spec := "fnNearRains", inPlace := ["math.Float64bits", "math.Float64frombits", "math.sqrt"], unfollowed := true, recurses := true, apart := false }
def FnNearRainsSaid : Prop := fnNearRainsRow.holds Try.pinned (OpenSpec.ofChange fnNearRainsSpec)

/-- ITS FALSE NEIGHBOUR: 'it returns false'. Refute it at one input. -/
def fnNearRainsWrong : ChangeSpec := { name := "fnNearRains", fn := fun _ => fun
  | [d1, d2] => { results := [.lit (.bool false)], args := [d1, d2] }
  | _ => none }
def FnNearRainsWrongFalsely : Prop := fnNearRainsRow.holds Try.pinned (OpenSpec.ofChange fnNearRainsWrong)

/-- 'laws.FnStorms': WHATEVER THE INPUT: true; the input reads as it did. -/
def fnStormsSpec : ChangeSpec := { name := "fnStorms", fn := fun _ => fun
  | [d1, d2] => { results := [.lit (.bool true)], args := [d1, d2] }
  | _ => none }
def fnStormsRow : OpenClaim := { program := "ytojmgleljmoidaa", sum := "9a8ee9448507f83e33d74ce2e08eb8a9ff86fcc5313e4c023835095f97f4e57e", func := "loop.example/g01302/laws.FnStorms", spec := "fnStorms", inPlace := ["math.Float64bits", "math.Float64frombits", "math.Float32bits"], unfollowed := true, recurses := true, apart := false }
def FnStormsSaid : Prop := fnStormsRow.holds Try.pinned (OpenSpec.ofChange fnStormsSpec)

/-- ITS FALSE NEIGHBOUR: 'it returns false'. Refute it at one input. -/
def fnStormsWrong : ChangeSpec := { name := "fnStorms", fn := fun _ => fun
  | [d1, d2] => { results := [.lit (.bool false)], args := [d1, d2] }
  | _ => none }
def FnStormsWrongFalsely : Prop := fnStormsRow.holds Try.pinned (OpenSpec.ofChange fnStormsWrong)

/- THE SECOND FORM. 'bulk': how many values and letters a reading holds, each counted each time it is reached (what is shared counts as often as it is met; a slice's spare places count too). A statement '..UptoSaid' is the law's where the arguments, and the package variables that the reading takes, are together of bulk at most 1048576: NARROWER than '..Said'. Prove '..Said' where nothing that the law and all that it calls make is longer than what came in: it says more and counts as full. Else prove '..UptoSaid'. A law counts once. -/
mutual
def uptoBulk {H : Type} : DataW H → Nat
  | .lit (.string bytes) => bytes.length + 1
  | .lit _ => 1
  | .nil => 1
  | .ptr d => uptoBulk d + 1
  | .slice elems spare => uptoBulkAll elems + uptoBulkAll spare + 1
  | .agg parts => uptoBulkAll parts + 1
  | .iface _ d => uptoBulk d + 1
  | .map entries => uptoBulkEntries entries + 1
  | .held _ => 1
def uptoBulkAll {H : Type} : List (DataW H) → Nat
  | [] => 0
  | d :: r => uptoBulk d + uptoBulkAll r
def uptoBulkEntries {H : Type} : List (Lit × DataW H) → Nat
  | [] => 0
  | x :: r => uptoBulkEntry x + uptoBulkEntries r
def uptoBulkEntry {H : Type} : Lit × DataW H → Nat
  | (.string bytes, d) => bytes.length + uptoBulk d + 1
  | (_, d) => uptoBulk d + 1
 end
def uptoSmall : (H : Type) → List (DataW H) → Bool := fun _ ds => decide (uptoBulkAll ds ≤ 1048576)
def OpenSpec.upto (s : _root_.Go.ChangeSpec) : _root_.Go.OpenSpec := { _root_.Go.OpenSpec.ofChange s with cond := some uptoSmall }

/-- 'laws.FnExactSpreadRain', WHERE WHAT IT READS IS OF BULK AT MOST 1048576: true; the input reads as it did. -/
def fnExactSpreadRainUptoRow : OpenClaim := { program := "ytojmgleljmoidaa", sum := "9a8ee9448507f83e33d74ce2e08eb8a9ff86fcc5313e4c023835095f97f4e57e", func := "loop.example/g01302/laws.FnExactSpreadRain", spec := "fnExactSpreadRain", inPlace := ["math.Float64bits", "math.Float64frombits"], unfollowed := true, recurses := true, apart := false, narrowed := true }
def FnExactSpreadRainUptoSaid : Prop := fnExactSpreadRainUptoRow.holds Try.pinned (OpenSpec.upto fnExactSpreadRainSpec)

/-- 'laws.FnExactStormsOf', WHERE WHAT IT READS IS OF BULK AT MOST 1048576: true; the input reads as it did. -/
def fnExactStormsOfUptoRow : OpenClaim := { program := "ytojmgleljmoidaa", sum := "9a8ee9448507f83e33d74ce2e08eb8a9ff86fcc5313e4c023835095f97f4e57e", func := "loop.example/g01302/laws.FnExactStormsOf", spec := "fnExactStormsOf", inPlace := ["math.Float64bits", "math.Float64frombits"], unfollowed := true, recurses := true, apart := false, narrowed := true }
def FnExactStormsOfUptoSaid : Prop := fnExactStormsOfUptoRow.holds Try.pinned (OpenSpec.upto fnExactStormsOfSpec)

/-- 'laws.FnExactUnitList', WHERE WHAT IT READS IS OF BULK AT MOST 1048576: true; the input reads as it did. -/
def fnExactUnitListUptoRow : OpenClaim := { program := "ytojmgleljmoidaa", sum := "9a8ee9448507f83e33d74ce2e08eb8a9ff86fcc5313e4c023835095f97f4e57e", func := "loop.example/g01302/laws.FnExactUnitList", spec := "fnExactUnitList", inPlace := ["math.Float64frombits", "math.Float64bits"], unfollowed := true, recurses := true, apart := false, narrowed := true }
def FnExactUnitListUptoSaid : Prop := fnExactUnitListUptoRow.holds Try.pinned (OpenSpec.upto fnExactUnitListSpec)

/-- 'laws.FnExactRunSnow', WHERE WHAT IT READS IS OF BULK AT MOST 1048576: true; the input reads as it did. -/
def fnExactRunSnowUptoRow : OpenClaim := { program := "ytojmgleljmoidaa", sum := "9a8ee9448507f83e33d74ce2e08eb8a9ff86fcc5313e4c023835095f97f4e57e", func := "loop.example/g01302/laws.FnExactRunSnow", spec := "fnExactRunSnow", inPlace := ["math.Float64bits", "math.Float64frombits"], unfollowed := true, recurses := true, apart := false, narrowed := true }
def FnExactRunSnowUptoSaid : Prop := fnExactRunSnowUptoRow.holds Try.pinned (OpenSpec.upto fnExactRunSnowSpec)

/-- 'laws.FnExactRunBuckets', WHERE WHAT IT READS IS OF BULK AT MOST 1048576: true; the input reads as it did. -/
def fnExactRunBucketsUptoRow : OpenClaim := { program := "ytojmgleljmoidaa", sum := "9a8ee9448507f83e33d74ce2e08eb8a9ff86fcc5313e4c023835095f97f4e57e", func := "loop.example/g01302/laws.FnExactRunBuckets", spec := "fnExactRunBuckets", inPlace := ["math.Float64frombits", "math.Float64bits"], unfollowed := true, recurses := true, apart := false, narrowed := true }
def FnExactRunBucketsUptoSaid : Prop := fnExactRunBucketsUptoRow.holds Try.pinned (OpenSpec.upto fnExactRunBucketsSpec)

/-- 'laws.FnExactRainList', WHERE WHAT IT READS IS OF BULK AT MOST 1048576: true; the input reads as it did. -/
def fnExactRainListUptoRow : OpenClaim := { program := "ytojmgleljmoidaa", sum := "9a8ee9448507f83e33d74ce2e08eb8a9ff86fcc5313e4c023835095f97f4e57e", func := "loop.example/g01302/laws.FnExactRainList", spec := "fnExactRainList", inPlace := ["math.Float64bits", "math.Float64frombits"], unfollowed := true, recurses := true, apart := false, narrowed := true }
def FnExactRainListUptoSaid : Prop := fnExactRainListUptoRow.holds Try.pinned (OpenSpec.upto fnExactRainListSpec)

/-- 'laws.FnExactRainShared', WHERE WHAT IT READS IS OF BULK AT MOST 1048576: true; the input reads as it did. -/
def fnExactRainSharedUptoRow : OpenClaim := { program := "ytojmgleljmoidaa", sum := "9a8ee9448507f83e33d74ce2e08eb8a9ff86fcc5313e4c023835095f97f4e57e", func := "loop.example/g01302/laws.FnExactRainShared", spec := "fnExactRainShared", inPlace := ["math.Float64bits", "math.Float64frombits"], unfollowed := true, recurses := true, apart := false, narrowed := true }
def FnExactRainSharedUptoSaid : Prop := fnExactRainSharedUptoRow.holds Try.pinned (OpenSpec.upto fnExactRainSharedSpec)

/-- 'laws.FnSoils', WHERE WHAT IT READS IS OF BULK AT MOST 1048576: true; the input reads as it did. -/
def fnSoilsUptoRow : OpenClaim := { program := "ytojmgleljmoidaa", sum := "9a8ee9448507f83e33d74ce2e08eb8a9ff86fcc5313e4c023835095f97f4e57e", func := "loop.example/g01302/laws.FnSoils", spec := "fnSoils", inPlace := ["math.Float64bits", "math.Float64frombits", "math.Float32bits"], unfollowed := true, recurses := true, apart := false, narrowed := true }
def FnSoilsUptoSaid : Prop := fnSoilsUptoRow.holds Try.pinned (OpenSpec.upto fnSoilsSpec)

/-- 'laws.FnSnows', WHERE WHAT IT READS IS OF BULK AT MOST 1048576: true; the input reads as it did. -/
def fnSnowsUptoRow : OpenClaim := { program := "ytojmgleljmoidaa", sum := "9a8ee9448507f83e33d74ce2e08eb8a9ff86fcc5313e4c023835095f97f4e57e", func := "loop.example/g01302/laws.FnSnows", spec := "fnSnows", inPlace := ["math.Float64bits", "math.Float64frombits", "math.Float32bits"], unfollowed := true, recurses := true, apart := false, narrowed := true }
def FnSnowsUptoSaid : Prop := fnSnowsUptoRow.holds Try.pinned (OpenSpec.upto fnSnowsSpec)

/-- 'laws.FnBuckets', WHERE WHAT IT READS IS OF BULK AT MOST 1048576: true; the input reads as it did. -/
def fnBucketsUptoRow : OpenClaim := { program := "ytojmgleljmoidaa", sum := "9a8ee9448507f83e33d74ce2e08eb8a9ff86fcc5313e4c023835095f97f4e57e", func := "loop.example/g01302/laws.FnBuckets", spec := "fnBuckets", inPlace := ["math.Float64bits", "math.Float64frombits"], unfollowed := true, recurses := true, apart := false, narrowed := true }
def FnBucketsUptoSaid : Prop := fnBucketsUptoRow.holds Try.pinned (OpenSpec.upto fnBucketsSpec)

/-- 'laws.FnNearRains', WHERE WHAT IT READS IS OF BULK AT MOST 1048576: true; the input reads as it did. -/
def fnNearRainsUptoRow : OpenClaim := { program := "ytojmgleljmoidaa", sum := "9a8ee9448507f83e33d74ce2e08eb8a9ff86fcc5313e4c023835095f97f4e57e", func := "loop.example/g01302/laws.FnNearRains", spec := "fnNearRains", inPlace := ["math.Float64bits", "math.Float64frombits", "math.sqrt"], unfollowed := true, recurses := true, apart := false, narrowed := true }
def FnNearRainsUptoSaid : Prop := fnNearRainsUptoRow.holds Try.pinned (OpenSpec.upto fnNearRainsSpec)

/-- 'laws.FnStorms', WHERE WHAT IT READS IS OF BULK AT MOST 1048576: true; the input reads as it did. -/
def fnStormsUptoRow : OpenClaim := { program := "ytojmgleljmoidaa", sum := "9a8ee9448507f83e33d74ce2e08eb8a9ff86fcc5313e4c023835095f97f4e57e", func := "loop.example/g01302/laws.FnStorms", spec := "fnStorms", inPlace := ["math.Float64bits", "math.Float64frombits", "math.Float32bits"], unfollowed := true, recurses := true, apart := false, narrowed := true }
def FnStormsUptoSaid : Prop := fnStormsUptoRow.holds Try.pinned (OpenSpec.upto fnStormsSpec)

end Rows
end Go.Proofs.Ytojmgleljmoidaa
