/-
  No cell of these rows narrows 'for every input' (looked for: loops, veiled, ifaces, maps, wideKeys, modest, calm, conditions, laid).
  DERIVED. THE GIVEN ROWS OF THIS SEAT. 12 by the template 'for every input the law returns true; each argument reads behind the call as it read before'; 0 by the template 'total and deterministic' (their statements: YtcmbfkdhfdiamaaTotals.lean).
  GIVEN WITH THE SEED: the statements are not yours to turn. If you find one false, say at which input.
  Laid BY PROGRAM, IN A SANDBOX (cutbox-rows.mjs): the forced cells as the released guide's own fill.sh prints them over the translation 0bc70de17fcb5fd5… (all of the seat's roots in one cut). By AI agents, Wed Nov 11 2026. No macro, syntax, notation, axiom, sorry.
-/
import Derived.Test.YtcmbfkdhfdiamaaChecked
import GoSem.Claim
import GoSem.ClaimJoined
import GoSem.ClaimMapViews
import Derived.JoinedTies
import Derived.KernelRfl
namespace Go.Proofs.Ytcmbfkdhfdiamaa
/- THE CELL 'sum', in the pinned program and in every row, IS THE sha256 OF THE DUMP (.gsa) THAT YtcmbfkdhfdiamaaProg.lean LOADS. Nothing in Lean hashes anything: it is a label: what it is worth is what the hold of that sum in a sandbox is worth. -/
noncomputable def Try.pinned : Pinned := { name := "ytcmbfkdhfdiamaa", sum := "0bc70de17fcb5fd59e9f163ca972b08ea4a545726a91fc16293d950a75a0eb90", checked := Try.checked }
namespace Rows
def none {H : Type} : Left H := { results := [], args := [] }

/-- 'laws.FnBlocksOf': WHATEVER THE INPUT: true; the input reads as it did. -/
def fnBlocksOfSpec : ChangeSpec := { name := "fnBlocksOf", fn := fun _ => fun
  | [d] => { results := [.lit (.bool true)], args := [d] }
  | _ => none }
def fnBlocksOfRow : OpenClaim := { program := "ytcmbfkdhfdiamaa", sum := "0bc70de17fcb5fd59e9f163ca972b08ea4a545726a91fc16293d950a75a0eb90", func := "loop.example/countedchances/laws.FnBlocksOf", spec := "fnBlocksOf", unfollowed := true, recurses := true, apart := false }
def FnBlocksOfSaid : Prop := fnBlocksOfRow.holds Try.pinned (OpenSpec.ofChange fnBlocksOfSpec)

/-- ITS FALSE NEIGHBOUR: 'it returns false'. Refute it at one input. -/
def fnBlocksOfWrong : ChangeSpec := { name := "fnBlocksOf", fn := fun _ => fun
  | [d] => { results := [.lit (.bool false)], args := [d] }
  | _ => none }
def FnBlocksOfWrongFalsely : Prop := fnBlocksOfRow.holds Try.pinned (OpenSpec.ofChange fnBlocksOfWrong)

/-- 'laws.FnExactRiseMiss': WHATEVER THE INPUT: true; the input reads as it did. -/
def fnExactRiseMissSpec : ChangeSpec := { name := "fnExactRiseMiss", fn := fun _ => fun
  | [d1, d2] => { results := [.lit (.bool true)], args := [d1, d2] }
  | _ => none }
def fnExactRiseMissRow : OpenClaim := { program := "ytcmbfkdhfdiamaa", sum := "0bc70de17fcb5fd59e9f163ca972b08ea4a545726a91fc16293d950a75a0eb90", func := "loop.example/countedchances/laws.FnExactRiseMiss", spec := "fnExactRiseMiss", unfollowed := true, recurses := true, apart := false }
def FnExactRiseMissSaid : Prop := fnExactRiseMissRow.holds Try.pinned (OpenSpec.ofChange fnExactRiseMissSpec)

/-- ITS FALSE NEIGHBOUR: 'it returns false'. Refute it at one input. -/
def fnExactRiseMissWrong : ChangeSpec := { name := "fnExactRiseMiss", fn := fun _ => fun
  | [d1, d2] => { results := [.lit (.bool false)], args := [d1, d2] }
  | _ => none }
def FnExactRiseMissWrongFalsely : Prop := fnExactRiseMissRow.holds Try.pinned (OpenSpec.ofChange fnExactRiseMissWrong)

/-- 'laws.FnRiseByHull': WHATEVER THE INPUT: true; the input reads as it did. -/
def fnRiseByHullSpec : ChangeSpec := { name := "fnRiseByHull", fn := fun _ => fun
  | [d] => { results := [.lit (.bool true)], args := [d] }
  | _ => none }
def fnRiseByHullRow : OpenClaim := { program := "ytcmbfkdhfdiamaa", sum := "0bc70de17fcb5fd59e9f163ca972b08ea4a545726a91fc16293d950a75a0eb90", func := "loop.example/countedchances/laws.FnRiseByHull", spec := "fnRiseByHull", unfollowed := true, recurses := true, apart := false }
def FnRiseByHullSaid : Prop := fnRiseByHullRow.holds Try.pinned (OpenSpec.ofChange fnRiseByHullSpec)

/-- ITS FALSE NEIGHBOUR: 'it returns false'. Refute it at one input. -/
def fnRiseByHullWrong : ChangeSpec := { name := "fnRiseByHull", fn := fun _ => fun
  | [d] => { results := [.lit (.bool false)], args := [d] }
  | _ => none }
def FnRiseByHullWrongFalsely : Prop := fnRiseByHullRow.holds Try.pinned (OpenSpec.ofChange fnRiseByHullWrong)

/-- 'laws.FnExactRiseByBlocks': WHATEVER THE INPUT: true; the input reads as it did. -/
def fnExactRiseByBlocksSpec : ChangeSpec := { name := "fnExactRiseByBlocks", fn := fun _ => fun
  | [d1, d2] => { results := [.lit (.bool true)], args := [d1, d2] }
  | _ => none }
def fnExactRiseByBlocksRow : OpenClaim := { program := "ytcmbfkdhfdiamaa", sum := "0bc70de17fcb5fd59e9f163ca972b08ea4a545726a91fc16293d950a75a0eb90", func := "loop.example/countedchances/laws.FnExactRiseByBlocks", spec := "fnExactRiseByBlocks", unfollowed := true, recurses := true, apart := false }
def FnExactRiseByBlocksSaid : Prop := fnExactRiseByBlocksRow.holds Try.pinned (OpenSpec.ofChange fnExactRiseByBlocksSpec)

/-- ITS FALSE NEIGHBOUR: 'it returns false'. Refute it at one input. -/
def fnExactRiseByBlocksWrong : ChangeSpec := { name := "fnExactRiseByBlocks", fn := fun _ => fun
  | [d1, d2] => { results := [.lit (.bool false)], args := [d1, d2] }
  | _ => none }
def FnExactRiseByBlocksWrongFalsely : Prop := fnExactRiseByBlocksRow.holds Try.pinned (OpenSpec.ofChange fnExactRiseByBlocksWrong)

/-- 'laws.FnExactRiseByMeans': WHATEVER THE INPUT: true; the input reads as it did. -/
def fnExactRiseByMeansSpec : ChangeSpec := { name := "fnExactRiseByMeans", fn := fun _ => fun
  | [d1, d2] => { results := [.lit (.bool true)], args := [d1, d2] }
  | _ => none }
def fnExactRiseByMeansRow : OpenClaim := { program := "ytcmbfkdhfdiamaa", sum := "0bc70de17fcb5fd59e9f163ca972b08ea4a545726a91fc16293d950a75a0eb90", func := "loop.example/countedchances/laws.FnExactRiseByMeans", spec := "fnExactRiseByMeans", unfollowed := true, recurses := true, apart := false }
def FnExactRiseByMeansSaid : Prop := fnExactRiseByMeansRow.holds Try.pinned (OpenSpec.ofChange fnExactRiseByMeansSpec)

/-- ITS FALSE NEIGHBOUR: 'it returns false'. Refute it at one input. -/
def fnExactRiseByMeansWrong : ChangeSpec := { name := "fnExactRiseByMeans", fn := fun _ => fun
  | [d1, d2] => { results := [.lit (.bool false)], args := [d1, d2] }
  | _ => none }
def FnExactRiseByMeansWrongFalsely : Prop := fnExactRiseByMeansRow.holds Try.pinned (OpenSpec.ofChange fnExactRiseByMeansWrong)

/-- 'laws.FnRiseByMeans': WHATEVER THE INPUT: true; the input reads as it did. -/
def fnRiseByMeansSpec : ChangeSpec := { name := "fnRiseByMeans", fn := fun _ => fun
  | [d] => { results := [.lit (.bool true)], args := [d] }
  | _ => none }
def fnRiseByMeansRow : OpenClaim := { program := "ytcmbfkdhfdiamaa", sum := "0bc70de17fcb5fd59e9f163ca972b08ea4a545726a91fc16293d950a75a0eb90", func := "loop.example/countedchances/laws.FnRiseByMeans", spec := "fnRiseByMeans", unfollowed := true, recurses := true, apart := false }
def FnRiseByMeansSaid : Prop := fnRiseByMeansRow.holds Try.pinned (OpenSpec.ofChange fnRiseByMeansSpec)

/-- ITS FALSE NEIGHBOUR: 'it returns false'. Refute it at one input. -/
def fnRiseByMeansWrong : ChangeSpec := { name := "fnRiseByMeans", fn := fun _ => fun
  | [d] => { results := [.lit (.bool false)], args := [d] }
  | _ => none }
def FnRiseByMeansWrongFalsely : Prop := fnRiseByMeansRow.holds Try.pinned (OpenSpec.ofChange fnRiseByMeansWrong)

/-- 'laws.FnExactPeakOf': WHATEVER THE INPUT: true; the input reads as it did. -/
def fnExactPeakOfSpec : ChangeSpec := { name := "fnExactPeakOf", fn := fun _ => fun
  | [d1, d2] => { results := [.lit (.bool true)], args := [d1, d2] }
  | _ => none }
def fnExactPeakOfRow : OpenClaim := { program := "ytcmbfkdhfdiamaa", sum := "0bc70de17fcb5fd59e9f163ca972b08ea4a545726a91fc16293d950a75a0eb90", func := "loop.example/countedchances/laws.FnExactPeakOf", spec := "fnExactPeakOf", unfollowed := true, recurses := true, apart := false }
def FnExactPeakOfSaid : Prop := fnExactPeakOfRow.holds Try.pinned (OpenSpec.ofChange fnExactPeakOfSpec)

/-- ITS FALSE NEIGHBOUR: 'it returns false'. Refute it at one input. -/
def fnExactPeakOfWrong : ChangeSpec := { name := "fnExactPeakOf", fn := fun _ => fun
  | [d1, d2] => { results := [.lit (.bool false)], args := [d1, d2] }
  | _ => none }
def FnExactPeakOfWrongFalsely : Prop := fnExactPeakOfRow.holds Try.pinned (OpenSpec.ofChange fnExactPeakOfWrong)

/-- 'laws.FnRiseMiss': WHATEVER THE INPUT: true; the input reads as it did. -/
def fnRiseMissSpec : ChangeSpec := { name := "fnRiseMiss", fn := fun _ => fun
  | [d] => { results := [.lit (.bool true)], args := [d] }
  | _ => none }
def fnRiseMissRow : OpenClaim := { program := "ytcmbfkdhfdiamaa", sum := "0bc70de17fcb5fd59e9f163ca972b08ea4a545726a91fc16293d950a75a0eb90", func := "loop.example/countedchances/laws.FnRiseMiss", spec := "fnRiseMiss", unfollowed := true, recurses := true, apart := false }
def FnRiseMissSaid : Prop := fnRiseMissRow.holds Try.pinned (OpenSpec.ofChange fnRiseMissSpec)

/-- ITS FALSE NEIGHBOUR: 'it returns false'. Refute it at one input. -/
def fnRiseMissWrong : ChangeSpec := { name := "fnRiseMiss", fn := fun _ => fun
  | [d] => { results := [.lit (.bool false)], args := [d] }
  | _ => none }
def FnRiseMissWrongFalsely : Prop := fnRiseMissRow.holds Try.pinned (OpenSpec.ofChange fnRiseMissWrong)

/-- 'laws.FnRiseByBlocks': WHATEVER THE INPUT: true; the input reads as it did. -/
def fnRiseByBlocksSpec : ChangeSpec := { name := "fnRiseByBlocks", fn := fun _ => fun
  | [d] => { results := [.lit (.bool true)], args := [d] }
  | _ => none }
def fnRiseByBlocksRow : OpenClaim := { program := "ytcmbfkdhfdiamaa", sum := "0bc70de17fcb5fd59e9f163ca972b08ea4a545726a91fc16293d950a75a0eb90", func := "loop.example/countedchances/laws.FnRiseByBlocks", spec := "fnRiseByBlocks", unfollowed := true, recurses := true, apart := false }
def FnRiseByBlocksSaid : Prop := fnRiseByBlocksRow.holds Try.pinned (OpenSpec.ofChange fnRiseByBlocksSpec)

/-- ITS FALSE NEIGHBOUR: 'it returns false'. Refute it at one input. -/
def fnRiseByBlocksWrong : ChangeSpec := { name := "fnRiseByBlocks", fn := fun _ => fun
  | [d] => { results := [.lit (.bool false)], args := [d] }
  | _ => none }
def FnRiseByBlocksWrongFalsely : Prop := fnRiseByBlocksRow.holds Try.pinned (OpenSpec.ofChange fnRiseByBlocksWrong)

/-- 'laws.FnPeakOf': WHATEVER THE INPUT: true; the input reads as it did. -/
def fnPeakOfSpec : ChangeSpec := { name := "fnPeakOf", fn := fun _ => fun
  | [d] => { results := [.lit (.bool true)], args := [d] }
  | _ => none }
def fnPeakOfRow : OpenClaim := { program := "ytcmbfkdhfdiamaa", sum := "0bc70de17fcb5fd59e9f163ca972b08ea4a545726a91fc16293d950a75a0eb90", func := "loop.example/countedchances/laws.FnPeakOf", spec := "fnPeakOf", unfollowed := true, recurses := true, apart := false }
def FnPeakOfSaid : Prop := fnPeakOfRow.holds Try.pinned (OpenSpec.ofChange fnPeakOfSpec)

/-- ITS FALSE NEIGHBOUR: 'it returns false'. Refute it at one input. -/
def fnPeakOfWrong : ChangeSpec := { name := "fnPeakOf", fn := fun _ => fun
  | [d] => { results := [.lit (.bool false)], args := [d] }
  | _ => none }
def FnPeakOfWrongFalsely : Prop := fnPeakOfRow.holds Try.pinned (OpenSpec.ofChange fnPeakOfWrong)

/-- 'laws.FnPiecesTried': WHATEVER THE INPUT: true; the input reads as it did. -/
def fnPiecesTriedSpec : ChangeSpec := { name := "fnPiecesTried", fn := fun _ => fun
  | [d] => { results := [.lit (.bool true)], args := [d] }
  | _ => none }
def fnPiecesTriedRow : OpenClaim := { program := "ytcmbfkdhfdiamaa", sum := "0bc70de17fcb5fd59e9f163ca972b08ea4a545726a91fc16293d950a75a0eb90", func := "loop.example/countedchances/laws.FnPiecesTried", spec := "fnPiecesTried", unfollowed := true, recurses := true, apart := false }
def FnPiecesTriedSaid : Prop := fnPiecesTriedRow.holds Try.pinned (OpenSpec.ofChange fnPiecesTriedSpec)

/-- ITS FALSE NEIGHBOUR: 'it returns false'. Refute it at one input. -/
def fnPiecesTriedWrong : ChangeSpec := { name := "fnPiecesTried", fn := fun _ => fun
  | [d] => { results := [.lit (.bool false)], args := [d] }
  | _ => none }
def FnPiecesTriedWrongFalsely : Prop := fnPiecesTriedRow.holds Try.pinned (OpenSpec.ofChange fnPiecesTriedWrong)

/-- 'laws.FnPiecesMiss': WHATEVER THE INPUT: true; the input reads as it did. -/
def fnPiecesMissSpec : ChangeSpec := { name := "fnPiecesMiss", fn := fun _ => fun
  | [d] => { results := [.lit (.bool true)], args := [d] }
  | _ => none }
def fnPiecesMissRow : OpenClaim := { program := "ytcmbfkdhfdiamaa", sum := "0bc70de17fcb5fd59e9f163ca972b08ea4a545726a91fc16293d950a75a0eb90", func := "loop.example/countedchances/laws.FnPiecesMiss", spec := "fnPiecesMiss", unfollowed := true, recurses := true, apart := false }
def FnPiecesMissSaid : Prop := fnPiecesMissRow.holds Try.pinned (OpenSpec.ofChange fnPiecesMissSpec)

/-- ITS FALSE NEIGHBOUR: 'it returns false'. Refute it at one input. -/
def fnPiecesMissWrong : ChangeSpec := { name := "fnPiecesMiss", fn := fun _ => fun
  | [d] => { results := [.lit (.bool false)], args := [d] }
  | _ => none }
def FnPiecesMissWrongFalsely : Prop := fnPiecesMissRow.holds Try.pinned (OpenSpec.ofChange fnPiecesMissWrong)

/- THE SECOND FORM. 'bulk': how many values and letters a reading holds, each counted each time it is reached (what is shared counts as often as it is met; a slice's spare places count too). A statement '..UptoSaid' is the law's where the arguments, and the package variables that the reading takes, are together of bulk at most 1048576: NARROWER than '..Said'. Prove '..Said' where nothing that the law and all that it calls make is longer than what came in: it says more and counts as full. Else prove '..UptoSaid'. A law counts once. -/
mutual
def uptoBulk {H : Type} : DataW H → Nat
  | .lit (.string bytes) => bytes.length + 1
  | .lit _ => 1
  | .nil => 1
  | .ptr d => uptoBulk d + 1
  | .slice elems spare => uptoBulkAll elems + uptoBulkAll spare + 1
  | .agg parts => uptoBulkAll parts + 1
  | .iface _ d => uptoBulk d + 1
  | .map entries => uptoBulkEntries entries + 1
  | .held _ => 1
def uptoBulkAll {H : Type} : List (DataW H) → Nat
  | [] => 0
  | d :: r => uptoBulk d + uptoBulkAll r
def uptoBulkEntries {H : Type} : List (Lit × DataW H) → Nat
  | [] => 0
  | x :: r => uptoBulkEntry x + uptoBulkEntries r
def uptoBulkEntry {H : Type} : Lit × DataW H → Nat
  | (.string bytes, d) => bytes.length + uptoBulk d + 1
  | (_, d) => uptoBulk d + 1
 end
def uptoSmall : (H : Type) → List (DataW H) → Bool := fun _ ds => decide (uptoBulkAll ds ≤ 1048576)
def OpenSpec.upto (s : _root_.Go.ChangeSpec) : _root_.Go.OpenSpec := { _root_.Go.OpenSpec.ofChange s with cond := some uptoSmall }

/-- 'laws.FnBlocksOf', WHERE WHAT IT READS IS OF BULK AT MOST 1048576: true; the input reads as it did. -/
def fnBlocksOfUptoRow : OpenClaim := { program := "ytcmbfkdhfdiamaa", sum := "0bc70de17fcb5fd59e9f163ca972b08ea4a545726a91fc16293d950a75a0eb90", func := "loop.example/countedchances/laws.FnBlocksOf", spec := "fnBlocksOf", unfollowed := true, recurses := true, apart := false, narrowed := true }
def FnBlocksOfUptoSaid : Prop := fnBlocksOfUptoRow.holds Try.pinned (OpenSpec.upto fnBlocksOfSpec)

/-- 'laws.FnExactRiseMiss', WHERE WHAT IT READS IS OF BULK AT MOST 1048576: true; the input reads as it did. -/
def fnExactRiseMissUptoRow : OpenClaim := { program := "ytcmbfkdhfdiamaa", sum := "0bc70de17fcb5fd59e9f163ca972b08ea4a545726a91fc16293d950a75a0eb90", func := "loop.example/countedchances/laws.FnExactRiseMiss", spec := "fnExactRiseMiss", unfollowed := true, recurses := true, apart := false, narrowed := true }
def FnExactRiseMissUptoSaid : Prop := fnExactRiseMissUptoRow.holds Try.pinned (OpenSpec.upto fnExactRiseMissSpec)

/-- 'laws.FnRiseByHull', WHERE WHAT IT READS IS OF BULK AT MOST 1048576: true; the input reads as it did. -/
def fnRiseByHullUptoRow : OpenClaim := { program := "ytcmbfkdhfdiamaa", sum := "0bc70de17fcb5fd59e9f163ca972b08ea4a545726a91fc16293d950a75a0eb90", func := "loop.example/countedchances/laws.FnRiseByHull", spec := "fnRiseByHull", unfollowed := true, recurses := true, apart := false, narrowed := true }
def FnRiseByHullUptoSaid : Prop := fnRiseByHullUptoRow.holds Try.pinned (OpenSpec.upto fnRiseByHullSpec)

/-- 'laws.FnExactRiseByBlocks', WHERE WHAT IT READS IS OF BULK AT MOST 1048576: true; the input reads as it did. -/
def fnExactRiseByBlocksUptoRow : OpenClaim := { program := "ytcmbfkdhfdiamaa", sum := "0bc70de17fcb5fd59e9f163ca972b08ea4a545726a91fc16293d950a75a0eb90", func := "loop.example/countedchances/laws.FnExactRiseByBlocks", spec := "fnExactRiseByBlocks", unfollowed := true, recurses := true, apart := false, narrowed := true }
def FnExactRiseByBlocksUptoSaid : Prop := fnExactRiseByBlocksUptoRow.holds Try.pinned (OpenSpec.upto fnExactRiseByBlocksSpec)

/-- 'laws.FnExactRiseByMeans', WHERE WHAT IT READS IS OF BULK AT MOST 1048576: true; the input reads as it did. -/
def fnExactRiseByMeansUptoRow : OpenClaim := { program := "ytcmbfkdhfdiamaa", sum := "0bc70de17fcb5fd59e9f163ca972b08ea4a545726a91fc16293d950a75a0eb90", func := "loop.example/countedchances/laws.FnExactRiseByMeans", spec := "fnExactRiseByMeans", unfollowed := true, recurses := true, apart := false, narrowed := true }
def FnExactRiseByMeansUptoSaid : Prop := fnExactRiseByMeansUptoRow.holds Try.pinned (OpenSpec.upto fnExactRiseByMeansSpec)

/-- 'laws.FnRiseByMeans', WHERE WHAT IT READS IS OF BULK AT MOST 1048576: true; the input reads as it did. -/
def fnRiseByMeansUptoRow : OpenClaim := { program := "ytcmbfkdhfdiamaa", sum := "0bc70de17fcb5fd59e9f163ca972b08ea4a545726a91fc16293d950a75a0eb90", func := "loop.example/countedchances/laws.FnRiseByMeans", spec := "fnRiseByMeans", unfollowed := true, recurses := true, apart := false, narrowed := true }
def FnRiseByMeansUptoSaid : Prop := fnRiseByMeansUptoRow.holds Try.pinned (OpenSpec.upto fnRiseByMeansSpec)

/-- 'laws.FnExactPeakOf', WHERE WHAT IT READS IS OF BULK AT MOST 1048576: true; the input reads as it did. -/
def fnExactPeakOfUptoRow : OpenClaim := { program := "ytcmbfkdhfdiamaa", sum := "0bc70de17fcb5fd59e9f163ca972b08ea4a545726a91fc16293d950a75a0eb90", func := "loop.example/countedchances/laws.FnExactPeakOf", spec := "fnExactPeakOf", unfollowed := true, recurses := true, apart := false, narrowed := true }
def FnExactPeakOfUptoSaid : Prop := fnExactPeakOfUptoRow.holds Try.pinned (OpenSpec.upto fnExactPeakOfSpec)

/-- 'laws.FnRiseMiss', WHERE WHAT IT READS IS OF BULK AT MOST 1048576: true; the input reads as it did. -/
def fnRiseMissUptoRow : OpenClaim := { program := "ytcmbfkdhfdiamaa", sum := "0bc70de17fcb5fd59e9f163ca972b08ea4a545726a91fc16293d950a75a0eb90", func := "loop.example/countedchances/laws.FnRiseMiss", spec := "fnRiseMiss", unfollowed := true, recurses := true, apart := false, narrowed := true }
def FnRiseMissUptoSaid : Prop := fnRiseMissUptoRow.holds Try.pinned (OpenSpec.upto fnRiseMissSpec)

/-- 'laws.FnRiseByBlocks', WHERE WHAT IT READS IS OF BULK AT MOST 1048576: true; the input reads as it did. -/
def fnRiseByBlocksUptoRow : OpenClaim := { program := "ytcmbfkdhfdiamaa", sum := "0bc70de17fcb5fd59e9f163ca972b08ea4a545726a91fc16293d950a75a0eb90", func := "loop.example/countedchances/laws.FnRiseByBlocks", spec := "fnRiseByBlocks", unfollowed := true, recurses := true, apart := false, narrowed := true }
def FnRiseByBlocksUptoSaid : Prop := fnRiseByBlocksUptoRow.holds Try.pinned (OpenSpec.upto fnRiseByBlocksSpec)

/-- 'laws.FnPeakOf', WHERE WHAT IT READS IS OF BULK AT MOST 1048576: true; the input reads as it did. -/
def fnPeakOfUptoRow : OpenClaim := { program := "ytcmbfkdhfdiamaa", sum := "0bc70de17fcb5fd59e9f163ca972b08ea4a545726a91fc16293d950a75a0eb90", func := "loop.example/countedchances/laws.FnPeakOf", spec := "fnPeakOf", unfollowed := true, recurses := true, apart := false, narrowed := true }
def FnPeakOfUptoSaid : Prop := fnPeakOfUptoRow.holds Try.pinned (OpenSpec.upto fnPeakOfSpec)

/-- 'laws.FnPiecesTried', WHERE WHAT IT READS IS OF BULK AT MOST 1048576: true; the input reads as it did. -/
def fnPiecesTriedUptoRow : OpenClaim := { program := "ytcmbfkdhfdiamaa", sum := "0bc70de17fcb5fd59e9f163ca972b08ea4a545726a91fc16293d950a75a0eb90", func := "loop.example/countedchances/laws.FnPiecesTried", spec := "fnPiecesTried", unfollowed := true, recurses := true, apart := false, narrowed := true }
def FnPiecesTriedUptoSaid : Prop := fnPiecesTriedUptoRow.holds Try.pinned (OpenSpec.upto fnPiecesTriedSpec)

/-- 'laws.FnPiecesMiss', WHERE WHAT IT READS IS OF BULK AT MOST 1048576: true; the input reads as it did. -/
def fnPiecesMissUptoRow : OpenClaim := { program := "ytcmbfkdhfdiamaa", sum := "0bc70de17fcb5fd59e9f163ca972b08ea4a545726a91fc16293d950a75a0eb90", func := "loop.example/countedchances/laws.FnPiecesMiss", spec := "fnPiecesMiss", unfollowed := true, recurses := true, apart := false, narrowed := true }
def FnPiecesMissUptoSaid : Prop := fnPiecesMissUptoRow.holds Try.pinned (OpenSpec.upto fnPiecesMissSpec)

end Rows
end Go.Proofs.Ytcmbfkdhfdiamaa
