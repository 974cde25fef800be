/-
  No cell of these rows narrows 'for every input' (looked for: loops, veiled, ifaces, maps, wideKeys, modest, calm, conditions, laid).
  DERIVED. THE GIVEN ROWS OF THIS SEAT. 4 by the template 'for every input the law returns true; each argument reads behind the call as it read before'; 0 by the template 'total and deterministic' (their statements: YtfbccnameppikaaTotals.lean).
  GIVEN WITH THE SEED: the statements are not yours to turn. If you find one false, say at which input.
  Laid BY PROGRAM, IN A SANDBOX (cutbox-rows.mjs): the forced cells as the released guide's own fill.sh prints them over the translation 47a73a0547ebca02… (all of the seat's roots in one cut). By AI agents, Wed Nov 11 2026. No macro, syntax, notation, axiom, sorry.
-/
import Derived.Test.YtfbccnameppikaaChecked
import GoSem.Claim
import GoSem.ClaimJoined
import GoSem.ClaimMapViews
import Derived.JoinedTies
import Derived.KernelRfl
namespace Go.Proofs.Ytfbccnameppikaa
/- THE CELL 'sum', in the pinned program and in every row, IS THE sha256 OF THE DUMP (.gsa) THAT YtfbccnameppikaaProg.lean LOADS. Nothing in Lean hashes anything: it is a label: what it is worth is what the hold of that sum in a sandbox is worth. -/
noncomputable def Try.pinned : Pinned := { name := "ytfbccnameppikaa", sum := "47a73a0547ebca024c0f73d2ac80577fc40c3194c7be63feb172937c9b148310", checked := Try.checked }
namespace Rows
def none {H : Type} : Left H := { results := [], args := [] }

/-- 'laws.FnPiecesTried': WHATEVER THE INPUT: true; the input reads as it did. -/
def fnPiecesTriedSpec : ChangeSpec := { name := "fnPiecesTried", fn := fun _ => fun
  | [d] => { results := [.lit (.bool true)], args := [d] }
  | _ => none }
def fnPiecesTriedRow : OpenClaim := { program := "ytfbccnameppikaa", sum := "47a73a0547ebca024c0f73d2ac80577fc40c3194c7be63feb172937c9b148310", func := "loop.example/countedchances/laws.FnPiecesTried", spec := "fnPiecesTried", unfollowed := true, recurses := true, apart := false }
def FnPiecesTriedSaid : Prop := fnPiecesTriedRow.holds Try.pinned (OpenSpec.ofChange fnPiecesTriedSpec)

/-- ITS FALSE NEIGHBOUR: 'it returns false'. Refute it at one input. -/
def fnPiecesTriedWrong : ChangeSpec := { name := "fnPiecesTried", fn := fun _ => fun
  | [d] => { results := [.lit (.bool false)], args := [d] }
  | _ => none }
def FnPiecesTriedWrongFalsely : Prop := fnPiecesTriedRow.holds Try.pinned (OpenSpec.ofChange fnPiecesTriedWrong)

/-- 'laws.FnPiecesMiss': WHATEVER THE INPUT: true; the input reads as it did. -/
def fnPiecesMissSpec : ChangeSpec := { name := "fnPiecesMiss", fn := fun _ => fun
  | [d] => { results := [.lit (.bool true)], args := [d] }
  | _ => none }
def fnPiecesMissRow : OpenClaim := { program := "ytfbccnameppikaa", sum := "47a73a0547ebca024c0f73d2ac80577fc40c3194c7be63feb172937c9b148310", func := "loop.example/countedchances/laws.FnPiecesMiss", spec := "fnPiecesMiss", unfollowed := true, recurses := true, apart := false }
def FnPiecesMissSaid : Prop := fnPiecesMissRow.holds Try.pinned (OpenSpec.ofChange fnPiecesMissSpec)

/-- ITS FALSE NEIGHBOUR: 'it returns false'. Refute it at one input. -/
def fnPiecesMissWrong : ChangeSpec := { name := "fnPiecesMiss", fn := fun _ => fun
  | [d] => { results := [.lit (.bool false)], args := [d] }
  | _ => none }
def FnPiecesMissWrongFalsely : Prop := fnPiecesMissRow.holds Try.pinned (OpenSpec.ofChange fnPiecesMissWrong)

/-- 'laws.FnPricedPieces': WHATEVER THE INPUT: true; the input reads as it did. -/
def fnPricedPiecesSpec : ChangeSpec := { name := "fnPricedPieces", fn := fun _ => fun
  | [d] => { results := [.lit (.bool true)], args := [d] }
  | _ => none }
def fnPricedPiecesRow : OpenClaim := { program := "ytfbccnameppikaa", sum := "47a73a0547ebca024c0f73d2ac80577fc40c3194c7be63feb172937c9b148310", func := "loop.example/countedchances/laws.FnPricedPieces", spec := "fnPricedPieces", unfollowed := true, recurses := true, apart := false }
def FnPricedPiecesSaid : Prop := fnPricedPiecesRow.holds Try.pinned (OpenSpec.ofChange fnPricedPiecesSpec)

/-- ITS FALSE NEIGHBOUR: 'it returns false'. Refute it at one input. -/
def fnPricedPiecesWrong : ChangeSpec := { name := "fnPricedPieces", fn := fun _ => fun
  | [d] => { results := [.lit (.bool false)], args := [d] }
  | _ => none }
def FnPricedPiecesWrongFalsely : Prop := fnPricedPiecesRow.holds Try.pinned (OpenSpec.ofChange fnPricedPiecesWrong)

/-- 'laws.FnExactMiddlePieces': WHATEVER THE INPUT: true; the input reads as it did. -/
def fnExactMiddlePiecesSpec : ChangeSpec := { name := "fnExactMiddlePieces", fn := fun _ => fun
  | [d1, d2] => { results := [.lit (.bool true)], args := [d1, d2] }
  | _ => none }
def fnExactMiddlePiecesRow : OpenClaim := { program := "ytfbccnameppikaa", sum := "47a73a0547ebca024c0f73d2ac80577fc40c3194c7be63feb172937c9b148310", func := "loop.example/countedchances/laws.FnExactMiddlePieces", spec := "fnExactMiddlePieces", unfollowed := true, recurses := true, apart := false }
def FnExactMiddlePiecesSaid : Prop := fnExactMiddlePiecesRow.holds Try.pinned (OpenSpec.ofChange fnExactMiddlePiecesSpec)

/-- ITS FALSE NEIGHBOUR: 'it returns false'. Refute it at one input. -/
def fnExactMiddlePiecesWrong : ChangeSpec := { name := "fnExactMiddlePieces", fn := fun _ => fun
  | [d1, d2] => { results := [.lit (.bool false)], args := [d1, d2] }
  | _ => none }
def FnExactMiddlePiecesWrongFalsely : Prop := fnExactMiddlePiecesRow.holds Try.pinned (OpenSpec.ofChange fnExactMiddlePiecesWrong)

/- THE SECOND FORM. 'bulk': how many values and letters a reading holds, each counted each time it is reached (what is shared counts as often as it is met; a slice's spare places count too). A statement '..UptoSaid' is the law's where the arguments, and the package variables that the reading takes, are together of bulk at most 1048576: NARROWER than '..Said'. Prove '..Said' where nothing that the law and all that it calls make is longer than what came in: it says more and counts as full. Else prove '..UptoSaid'. A law counts once. -/
mutual
def uptoBulk {H : Type} : DataW H → Nat
  | .lit (.string bytes) => bytes.length + 1
  | .lit _ => 1
  | .nil => 1
  | .ptr d => uptoBulk d + 1
  | .slice elems spare => uptoBulkAll elems + uptoBulkAll spare + 1
  | .agg parts => uptoBulkAll parts + 1
  | .iface _ d => uptoBulk d + 1
  | .map entries => uptoBulkEntries entries + 1
  | .held _ => 1
def uptoBulkAll {H : Type} : List (DataW H) → Nat
  | [] => 0
  | d :: r => uptoBulk d + uptoBulkAll r
def uptoBulkEntries {H : Type} : List (Lit × DataW H) → Nat
  | [] => 0
  | x :: r => uptoBulkEntry x + uptoBulkEntries r
def uptoBulkEntry {H : Type} : Lit × DataW H → Nat
  | (.string bytes, d) => bytes.length + uptoBulk d + 1
  | (_, d) => uptoBulk d + 1
 end
def uptoSmall : (H : Type) → List (DataW H) → Bool := fun _ ds => decide (uptoBulkAll ds ≤ 1048576)
def OpenSpec.upto (s : _root_.Go.ChangeSpec) : _root_.Go.OpenSpec := { _root_.Go.OpenSpec.ofChange s with cond := some uptoSmall }

/-- 'laws.FnPiecesTried', WHERE WHAT IT READS IS OF BULK AT MOST 1048576: true; the input reads as it did. -/
def fnPiecesTriedUptoRow : OpenClaim := { program := "ytfbccnameppikaa", sum := "47a73a0547ebca024c0f73d2ac80577fc40c3194c7be63feb172937c9b148310", func := "loop.example/countedchances/laws.FnPiecesTried", spec := "fnPiecesTried", unfollowed := true, recurses := true, apart := false, narrowed := true }
def FnPiecesTriedUptoSaid : Prop := fnPiecesTriedUptoRow.holds Try.pinned (OpenSpec.upto fnPiecesTriedSpec)

/-- 'laws.FnPiecesMiss', WHERE WHAT IT READS IS OF BULK AT MOST 1048576: true; the input reads as it did. -/
def fnPiecesMissUptoRow : OpenClaim := { program := "ytfbccnameppikaa", sum := "47a73a0547ebca024c0f73d2ac80577fc40c3194c7be63feb172937c9b148310", func := "loop.example/countedchances/laws.FnPiecesMiss", spec := "fnPiecesMiss", unfollowed := true, recurses := true, apart := false, narrowed := true }
def FnPiecesMissUptoSaid : Prop := fnPiecesMissUptoRow.holds Try.pinned (OpenSpec.upto fnPiecesMissSpec)

/-- 'laws.FnPricedPieces', WHERE WHAT IT READS IS OF BULK AT MOST 1048576: true; the input reads as it did. -/
def fnPricedPiecesUptoRow : OpenClaim := { program := "ytfbccnameppikaa", sum := "47a73a0547ebca024c0f73d2ac80577fc40c3194c7be63feb172937c9b148310", func := "loop.example/countedchances/laws.FnPricedPieces", spec := "fnPricedPieces", unfollowed := true, recurses := true, apart := false, narrowed := true }
def FnPricedPiecesUptoSaid : Prop := fnPricedPiecesUptoRow.holds Try.pinned (OpenSpec.upto fnPricedPiecesSpec)

/-- 'laws.FnExactMiddlePieces', WHERE WHAT IT READS IS OF BULK AT MOST 1048576: true; the input reads as it did. -/
def fnExactMiddlePiecesUptoRow : OpenClaim := { program := "ytfbccnameppikaa", sum := "47a73a0547ebca024c0f73d2ac80577fc40c3194c7be63feb172937c9b148310", func := "loop.example/countedchances/laws.FnExactMiddlePieces", spec := "fnExactMiddlePieces", unfollowed := true, recurses := true, apart := false, narrowed := true }
def FnExactMiddlePiecesUptoSaid : Prop := fnExactMiddlePiecesUptoRow.holds Try.pinned (OpenSpec.upto fnExactMiddlePiecesSpec)

end Rows
end Go.Proofs.Ytfbccnameppikaa
