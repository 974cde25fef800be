/-
  No cell of these rows narrows 'for every input' (looked for: loops, veiled, ifaces, maps, wideKeys, modest, calm, conditions, laid).
  DERIVED. THE GIVEN ROWS OF THIS SEAT. 12 by the template 'for every input the law returns true; each argument reads behind the call as it read before'; 0 by the template 'total and deterministic' (their statements: YthemnkcgpcgilaaTotals.lean).
  GIVEN WITH THE SEED: the statements are not yours to turn. If you find one false, say at which input.
  Laid BY PROGRAM, IN A SANDBOX (cutbox-rows.mjs): the forced cells as the released guide's own fill.sh prints them over the translation f9a995963b2ea243… (all of the seat's roots in one cut). By AI agents, Wed Nov 11 2026. No macro, syntax, notation, axiom, sorry.
-/
import Derived.Test.YthemnkcgpcgilaaChecked
import GoSem.Claim
import GoSem.ClaimJoined
import GoSem.ClaimMapViews
import Derived.JoinedTies
import Derived.KernelRfl
namespace Go.Proofs.Ythemnkcgpcgilaa
/- THE CELL 'sum', in the pinned program and in every row, IS THE sha256 OF THE DUMP (.gsa) THAT YthemnkcgpcgilaaProg.lean LOADS. Nothing in Lean hashes anything: it is a label: what it is worth is what the hold of that sum in a sandbox is worth. -/
noncomputable def Try.pinned : Pinned := { name := "ythemnkcgpcgilaa", sum := "f9a995963b2ea2433f9581fb967a132bb8cf2323d8bc707331a755fe07f597ca", checked := Try.checked }
namespace Rows
def none {H : Type} : Left H := { results := [], args := [] }

/-- 'laws.FnExactMiddleOf': WHATEVER THE INPUT: true; the input reads as it did. -/
def fnExactMiddleOfSpec : ChangeSpec := { name := "fnExactMiddleOf", fn := fun _ => fun
  | [d] => { results := [.lit (.bool true)], args := [d] }
  | _ => none }
def fnExactMiddleOfRow : OpenClaim := { program := "ythemnkcgpcgilaa", sum := "f9a995963b2ea2433f9581fb967a132bb8cf2323d8bc707331a755fe07f597ca", func := "loop.example/countedchances/laws.FnExactMiddleOf", spec := "fnExactMiddleOf", unfollowed := true, recurses := true, apart := false }
def FnExactMiddleOfSaid : Prop := fnExactMiddleOfRow.holds Try.pinned (OpenSpec.ofChange fnExactMiddleOfSpec)

/-- ITS FALSE NEIGHBOUR: 'it returns false'. Refute it at one input. -/
def fnExactMiddleOfWrong : ChangeSpec := { name := "fnExactMiddleOf", fn := fun _ => fun
  | [d] => { results := [.lit (.bool false)], args := [d] }
  | _ => none }
def FnExactMiddleOfWrongFalsely : Prop := fnExactMiddleOfRow.holds Try.pinned (OpenSpec.ofChange fnExactMiddleOfWrong)

/-- 'laws.FnExactPairMiddle': WHATEVER THE INPUT: true; the input reads as it did. -/
def fnExactPairMiddleSpec : ChangeSpec := { name := "fnExactPairMiddle", fn := fun _ => fun
  | [d] => { results := [.lit (.bool true)], args := [d] }
  | _ => none }
def fnExactPairMiddleRow : OpenClaim := { program := "ythemnkcgpcgilaa", sum := "f9a995963b2ea2433f9581fb967a132bb8cf2323d8bc707331a755fe07f597ca", func := "loop.example/countedchances/laws.FnExactPairMiddle", spec := "fnExactPairMiddle", unfollowed := true, recurses := true, apart := false }
def FnExactPairMiddleSaid : Prop := fnExactPairMiddleRow.holds Try.pinned (OpenSpec.ofChange fnExactPairMiddleSpec)

/-- ITS FALSE NEIGHBOUR: 'it returns false'. Refute it at one input. -/
def fnExactPairMiddleWrong : ChangeSpec := { name := "fnExactPairMiddle", fn := fun _ => fun
  | [d] => { results := [.lit (.bool false)], args := [d] }
  | _ => none }
def FnExactPairMiddleWrongFalsely : Prop := fnExactPairMiddleRow.holds Try.pinned (OpenSpec.ofChange fnExactPairMiddleWrong)

/-- 'laws.FnExactShiftMiddle': WHATEVER THE INPUT: true; the input reads as it did. -/
def fnExactShiftMiddleSpec : ChangeSpec := { name := "fnExactShiftMiddle", fn := fun _ => fun
  | [d1, d2] => { results := [.lit (.bool true)], args := [d1, d2] }
  | _ => none }
def fnExactShiftMiddleRow : OpenClaim := { program := "ythemnkcgpcgilaa", sum := "f9a995963b2ea2433f9581fb967a132bb8cf2323d8bc707331a755fe07f597ca", func := "loop.example/countedchances/laws.FnExactShiftMiddle", spec := "fnExactShiftMiddle", unfollowed := true, recurses := true, apart := false }
def FnExactShiftMiddleSaid : Prop := fnExactShiftMiddleRow.holds Try.pinned (OpenSpec.ofChange fnExactShiftMiddleSpec)

/-- ITS FALSE NEIGHBOUR: 'it returns false'. Refute it at one input. -/
def fnExactShiftMiddleWrong : ChangeSpec := { name := "fnExactShiftMiddle", fn := fun _ => fun
  | [d1, d2] => { results := [.lit (.bool false)], args := [d1, d2] }
  | _ => none }
def FnExactShiftMiddleWrongFalsely : Prop := fnExactShiftMiddleRow.holds Try.pinned (OpenSpec.ofChange fnExactShiftMiddleWrong)

/-- 'laws.FnExactTiesOf': WHATEVER THE INPUT: true; the input reads as it did. -/
def fnExactTiesOfSpec : ChangeSpec := { name := "fnExactTiesOf", fn := fun _ => fun
  | [d] => { results := [.lit (.bool true)], args := [d] }
  | _ => none }
def fnExactTiesOfRow : OpenClaim := { program := "ythemnkcgpcgilaa", sum := "f9a995963b2ea2433f9581fb967a132bb8cf2323d8bc707331a755fe07f597ca", func := "loop.example/countedchances/laws.FnExactTiesOf", spec := "fnExactTiesOf", unfollowed := true, recurses := true, apart := false }
def FnExactTiesOfSaid : Prop := fnExactTiesOfRow.holds Try.pinned (OpenSpec.ofChange fnExactTiesOfSpec)

/-- ITS FALSE NEIGHBOUR: 'it returns false'. Refute it at one input. -/
def fnExactTiesOfWrong : ChangeSpec := { name := "fnExactTiesOf", fn := fun _ => fun
  | [d] => { results := [.lit (.bool false)], args := [d] }
  | _ => none }
def FnExactTiesOfWrongFalsely : Prop := fnExactTiesOfRow.holds Try.pinned (OpenSpec.ofChange fnExactTiesOfWrong)

/-- 'laws.FnMiddleOf': WHATEVER THE INPUT: true; the input reads as it did. -/
def fnMiddleOfSpec : ChangeSpec := { name := "fnMiddleOf", fn := fun _ => fun
  | [d] => { results := [.lit (.bool true)], args := [d] }
  | _ => none }
def fnMiddleOfRow : OpenClaim := { program := "ythemnkcgpcgilaa", sum := "f9a995963b2ea2433f9581fb967a132bb8cf2323d8bc707331a755fe07f597ca", func := "loop.example/countedchances/laws.FnMiddleOf", spec := "fnMiddleOf", unfollowed := true, recurses := true, apart := false }
def FnMiddleOfSaid : Prop := fnMiddleOfRow.holds Try.pinned (OpenSpec.ofChange fnMiddleOfSpec)

/-- ITS FALSE NEIGHBOUR: 'it returns false'. Refute it at one input. -/
def fnMiddleOfWrong : ChangeSpec := { name := "fnMiddleOf", fn := fun _ => fun
  | [d] => { results := [.lit (.bool false)], args := [d] }
  | _ => none }
def FnMiddleOfWrongFalsely : Prop := fnMiddleOfRow.holds Try.pinned (OpenSpec.ofChange fnMiddleOfWrong)

/-- 'laws.FnShiftMiddle': WHATEVER THE INPUT: true; the input reads as it did. -/
def fnShiftMiddleSpec : ChangeSpec := { name := "fnShiftMiddle", fn := fun _ => fun
  | [d] => { results := [.lit (.bool true)], args := [d] }
  | _ => none }
def fnShiftMiddleRow : OpenClaim := { program := "ythemnkcgpcgilaa", sum := "f9a995963b2ea2433f9581fb967a132bb8cf2323d8bc707331a755fe07f597ca", func := "loop.example/countedchances/laws.FnShiftMiddle", spec := "fnShiftMiddle", unfollowed := true, recurses := true, apart := false }
def FnShiftMiddleSaid : Prop := fnShiftMiddleRow.holds Try.pinned (OpenSpec.ofChange fnShiftMiddleSpec)

/-- ITS FALSE NEIGHBOUR: 'it returns false'. Refute it at one input. -/
def fnShiftMiddleWrong : ChangeSpec := { name := "fnShiftMiddle", fn := fun _ => fun
  | [d] => { results := [.lit (.bool false)], args := [d] }
  | _ => none }
def FnShiftMiddleWrongFalsely : Prop := fnShiftMiddleRow.holds Try.pinned (OpenSpec.ofChange fnShiftMiddleWrong)

/-- 'laws.FnPairMiddle': WHATEVER THE INPUT: true; the input reads as it did. -/
def fnPairMiddleSpec : ChangeSpec := { name := "fnPairMiddle", fn := fun _ => fun
  | [d] => { results := [.lit (.bool true)], args := [d] }
  | _ => none }
def fnPairMiddleRow : OpenClaim := { program := "ythemnkcgpcgilaa", sum := "f9a995963b2ea2433f9581fb967a132bb8cf2323d8bc707331a755fe07f597ca", func := "loop.example/countedchances/laws.FnPairMiddle", spec := "fnPairMiddle", unfollowed := true, recurses := true, apart := false }
def FnPairMiddleSaid : Prop := fnPairMiddleRow.holds Try.pinned (OpenSpec.ofChange fnPairMiddleSpec)

/-- ITS FALSE NEIGHBOUR: 'it returns false'. Refute it at one input. -/
def fnPairMiddleWrong : ChangeSpec := { name := "fnPairMiddle", fn := fun _ => fun
  | [d] => { results := [.lit (.bool false)], args := [d] }
  | _ => none }
def FnPairMiddleWrongFalsely : Prop := fnPairMiddleRow.holds Try.pinned (OpenSpec.ofChange fnPairMiddleWrong)

/-- 'laws.FnTiesOf': WHATEVER THE INPUT: true; the input reads as it did. -/
def fnTiesOfSpec : ChangeSpec := { name := "fnTiesOf", fn := fun _ => fun
  | [d] => { results := [.lit (.bool true)], args := [d] }
  | _ => none }
def fnTiesOfRow : OpenClaim := { program := "ythemnkcgpcgilaa", sum := "f9a995963b2ea2433f9581fb967a132bb8cf2323d8bc707331a755fe07f597ca", func := "loop.example/countedchances/laws.FnTiesOf", spec := "fnTiesOf", unfollowed := true, recurses := true, apart := false }
def FnTiesOfSaid : Prop := fnTiesOfRow.holds Try.pinned (OpenSpec.ofChange fnTiesOfSpec)

/-- ITS FALSE NEIGHBOUR: 'it returns false'. Refute it at one input. -/
def fnTiesOfWrong : ChangeSpec := { name := "fnTiesOf", fn := fun _ => fun
  | [d] => { results := [.lit (.bool false)], args := [d] }
  | _ => none }
def FnTiesOfWrongFalsely : Prop := fnTiesOfRow.holds Try.pinned (OpenSpec.ofChange fnTiesOfWrong)

/-- 'laws.FnExactEdgeOf': WHATEVER THE INPUT: true; the input reads as it did. -/
def fnExactEdgeOfSpec : ChangeSpec := { name := "fnExactEdgeOf", fn := fun _ => fun
  | [d1, d2] => { results := [.lit (.bool true)], args := [d1, d2] }
  | _ => none }
def fnExactEdgeOfRow : OpenClaim := { program := "ythemnkcgpcgilaa", sum := "f9a995963b2ea2433f9581fb967a132bb8cf2323d8bc707331a755fe07f597ca", func := "loop.example/countedchances/laws.FnExactEdgeOf", spec := "fnExactEdgeOf", unfollowed := true, recurses := true, apart := false }
def FnExactEdgeOfSaid : Prop := fnExactEdgeOfRow.holds Try.pinned (OpenSpec.ofChange fnExactEdgeOfSpec)

/-- ITS FALSE NEIGHBOUR: 'it returns false'. Refute it at one input. -/
def fnExactEdgeOfWrong : ChangeSpec := { name := "fnExactEdgeOf", fn := fun _ => fun
  | [d1, d2] => { results := [.lit (.bool false)], args := [d1, d2] }
  | _ => none }
def FnExactEdgeOfWrongFalsely : Prop := fnExactEdgeOfRow.holds Try.pinned (OpenSpec.ofChange fnExactEdgeOfWrong)

/-- 'laws.FnExactClosedBy': WHATEVER THE INPUT: true; the input reads as it did. -/
def fnExactClosedBySpec : ChangeSpec := { name := "fnExactClosedBy", fn := fun _ => fun
  | [d1, d2, d3] => { results := [.lit (.bool true)], args := [d1, d2, d3] }
  | _ => none }
def fnExactClosedByRow : OpenClaim := { program := "ythemnkcgpcgilaa", sum := "f9a995963b2ea2433f9581fb967a132bb8cf2323d8bc707331a755fe07f597ca", func := "loop.example/countedchances/laws.FnExactClosedBy", spec := "fnExactClosedBy", unfollowed := true, recurses := true, apart := false }
def FnExactClosedBySaid : Prop := fnExactClosedByRow.holds Try.pinned (OpenSpec.ofChange fnExactClosedBySpec)

/-- ITS FALSE NEIGHBOUR: 'it returns false'. Refute it at one input. -/
def fnExactClosedByWrong : ChangeSpec := { name := "fnExactClosedBy", fn := fun _ => fun
  | [d1, d2, d3] => { results := [.lit (.bool false)], args := [d1, d2, d3] }
  | _ => none }
def FnExactClosedByWrongFalsely : Prop := fnExactClosedByRow.holds Try.pinned (OpenSpec.ofChange fnExactClosedByWrong)

/-- 'laws.FnExactIsTree': WHATEVER THE INPUT: true; the input reads as it did. -/
def fnExactIsTreeSpec : ChangeSpec := { name := "fnExactIsTree", fn := fun _ => fun
  | [d] => { results := [.lit (.bool true)], args := [d] }
  | _ => none }
def fnExactIsTreeRow : OpenClaim := { program := "ythemnkcgpcgilaa", sum := "f9a995963b2ea2433f9581fb967a132bb8cf2323d8bc707331a755fe07f597ca", func := "loop.example/countedchances/laws.FnExactIsTree", spec := "fnExactIsTree", recurses := true, apart := false }
def FnExactIsTreeSaid : Prop := fnExactIsTreeRow.holds Try.pinned (OpenSpec.ofChange fnExactIsTreeSpec)

/-- ITS FALSE NEIGHBOUR: 'it returns false'. Refute it at one input. -/
def fnExactIsTreeWrong : ChangeSpec := { name := "fnExactIsTree", fn := fun _ => fun
  | [d] => { results := [.lit (.bool false)], args := [d] }
  | _ => none }
def FnExactIsTreeWrongFalsely : Prop := fnExactIsTreeRow.holds Try.pinned (OpenSpec.ofChange fnExactIsTreeWrong)

/-- 'laws.FnExactMiddlePieces': WHATEVER THE INPUT: true; the input reads as it did. -/
def fnExactMiddlePiecesSpec : ChangeSpec := { name := "fnExactMiddlePieces", fn := fun _ => fun
  | [d1, d2] => { results := [.lit (.bool true)], args := [d1, d2] }
  | _ => none }
def fnExactMiddlePiecesRow : OpenClaim := { program := "ythemnkcgpcgilaa", sum := "f9a995963b2ea2433f9581fb967a132bb8cf2323d8bc707331a755fe07f597ca", func := "loop.example/countedchances/laws.FnExactMiddlePieces", spec := "fnExactMiddlePieces", unfollowed := true, recurses := true, apart := false }
def FnExactMiddlePiecesSaid : Prop := fnExactMiddlePiecesRow.holds Try.pinned (OpenSpec.ofChange fnExactMiddlePiecesSpec)

/-- ITS FALSE NEIGHBOUR: 'it returns false'. Refute it at one input. -/
def fnExactMiddlePiecesWrong : ChangeSpec := { name := "fnExactMiddlePieces", fn := fun _ => fun
  | [d1, d2] => { results := [.lit (.bool false)], args := [d1, d2] }
  | _ => none }
def FnExactMiddlePiecesWrongFalsely : Prop := fnExactMiddlePiecesRow.holds Try.pinned (OpenSpec.ofChange fnExactMiddlePiecesWrong)

/- THE SECOND FORM. 'bulk': how many values and letters a reading holds, each counted each time it is reached (what is shared counts as often as it is met; a slice's spare places count too). A statement '..UptoSaid' is the law's where the arguments, and the package variables that the reading takes, are together of bulk at most 1048576: NARROWER than '..Said'. Prove '..Said' where nothing that the law and all that it calls make is longer than what came in: it says more and counts as full. Else prove '..UptoSaid'. A law counts once. -/
mutual
def uptoBulk {H : Type} : DataW H → Nat
  | .lit (.string bytes) => bytes.length + 1
  | .lit _ => 1
  | .nil => 1
  | .ptr d => uptoBulk d + 1
  | .slice elems spare => uptoBulkAll elems + uptoBulkAll spare + 1
  | .agg parts => uptoBulkAll parts + 1
  | .iface _ d => uptoBulk d + 1
  | .map entries => uptoBulkEntries entries + 1
  | .held _ => 1
def uptoBulkAll {H : Type} : List (DataW H) → Nat
  | [] => 0
  | d :: r => uptoBulk d + uptoBulkAll r
def uptoBulkEntries {H : Type} : List (Lit × DataW H) → Nat
  | [] => 0
  | x :: r => uptoBulkEntry x + uptoBulkEntries r
def uptoBulkEntry {H : Type} : Lit × DataW H → Nat
  | (.string bytes, d) => bytes.length + uptoBulk d + 1
  | (_, d) => uptoBulk d + 1
 end
def uptoSmall : (H : Type) → List (DataW H) → Bool := fun _ ds => decide (uptoBulkAll ds ≤ 1048576)
def OpenSpec.upto (s : _root_.Go.ChangeSpec) : _root_.Go.OpenSpec := { _root_.Go.OpenSpec.ofChange s with cond := some uptoSmall }

/-- 'laws.FnExactMiddleOf', WHERE WHAT IT READS IS OF BULK AT MOST 1048576: true; the input reads as it did. -/
def fnExactMiddleOfUptoRow : OpenClaim := { program := "ythemnkcgpcgilaa", sum := "f9a995963b2ea2433f9581fb967a132bb8cf2323d8bc707331a755fe07f597ca", func := "loop.example/countedchances/laws.FnExactMiddleOf", spec := "fnExactMiddleOf", unfollowed := true, recurses := true, apart := false, narrowed := true }
def FnExactMiddleOfUptoSaid : Prop := fnExactMiddleOfUptoRow.holds Try.pinned (OpenSpec.upto fnExactMiddleOfSpec)

/-- 'laws.FnExactPairMiddle', WHERE WHAT IT READS IS OF BULK AT MOST 1048576: true; the input reads as it did. -/
def fnExactPairMiddleUptoRow : OpenClaim := { program := "ythemnkcgpcgilaa", sum := "f9a995963b2ea2433f9581fb967a132bb8cf2323d8bc707331a755fe07f597ca", func := "loop.example/countedchances/laws.FnExactPairMiddle", spec := "fnExactPairMiddle", unfollowed := true, recurses := true, apart := false, narrowed := true }
def FnExactPairMiddleUptoSaid : Prop := fnExactPairMiddleUptoRow.holds Try.pinned (OpenSpec.upto fnExactPairMiddleSpec)

/-- 'laws.FnExactShiftMiddle', WHERE WHAT IT READS IS OF BULK AT MOST 1048576: true; the input reads as it did. -/
def fnExactShiftMiddleUptoRow : OpenClaim := { program := "ythemnkcgpcgilaa", sum := "f9a995963b2ea2433f9581fb967a132bb8cf2323d8bc707331a755fe07f597ca", func := "loop.example/countedchances/laws.FnExactShiftMiddle", spec := "fnExactShiftMiddle", unfollowed := true, recurses := true, apart := false, narrowed := true }
def FnExactShiftMiddleUptoSaid : Prop := fnExactShiftMiddleUptoRow.holds Try.pinned (OpenSpec.upto fnExactShiftMiddleSpec)

/-- 'laws.FnExactTiesOf', WHERE WHAT IT READS IS OF BULK AT MOST 1048576: true; the input reads as it did. -/
def fnExactTiesOfUptoRow : OpenClaim := { program := "ythemnkcgpcgilaa", sum := "f9a995963b2ea2433f9581fb967a132bb8cf2323d8bc707331a755fe07f597ca", func := "loop.example/countedchances/laws.FnExactTiesOf", spec := "fnExactTiesOf", unfollowed := true, recurses := true, apart := false, narrowed := true }
def FnExactTiesOfUptoSaid : Prop := fnExactTiesOfUptoRow.holds Try.pinned (OpenSpec.upto fnExactTiesOfSpec)

/-- 'laws.FnMiddleOf', WHERE WHAT IT READS IS OF BULK AT MOST 1048576: true; the input reads as it did. -/
def fnMiddleOfUptoRow : OpenClaim := { program := "ythemnkcgpcgilaa", sum := "f9a995963b2ea2433f9581fb967a132bb8cf2323d8bc707331a755fe07f597ca", func := "loop.example/countedchances/laws.FnMiddleOf", spec := "fnMiddleOf", unfollowed := true, recurses := true, apart := false, narrowed := true }
def FnMiddleOfUptoSaid : Prop := fnMiddleOfUptoRow.holds Try.pinned (OpenSpec.upto fnMiddleOfSpec)

/-- 'laws.FnShiftMiddle', WHERE WHAT IT READS IS OF BULK AT MOST 1048576: true; the input reads as it did. -/
def fnShiftMiddleUptoRow : OpenClaim := { program := "ythemnkcgpcgilaa", sum := "f9a995963b2ea2433f9581fb967a132bb8cf2323d8bc707331a755fe07f597ca", func := "loop.example/countedchances/laws.FnShiftMiddle", spec := "fnShiftMiddle", unfollowed := true, recurses := true, apart := false, narrowed := true }
def FnShiftMiddleUptoSaid : Prop := fnShiftMiddleUptoRow.holds Try.pinned (OpenSpec.upto fnShiftMiddleSpec)

/-- 'laws.FnPairMiddle', WHERE WHAT IT READS IS OF BULK AT MOST 1048576: true; the input reads as it did. -/
def fnPairMiddleUptoRow : OpenClaim := { program := "ythemnkcgpcgilaa", sum := "f9a995963b2ea2433f9581fb967a132bb8cf2323d8bc707331a755fe07f597ca", func := "loop.example/countedchances/laws.FnPairMiddle", spec := "fnPairMiddle", unfollowed := true, recurses := true, apart := false, narrowed := true }
def FnPairMiddleUptoSaid : Prop := fnPairMiddleUptoRow.holds Try.pinned (OpenSpec.upto fnPairMiddleSpec)

/-- 'laws.FnTiesOf', WHERE WHAT IT READS IS OF BULK AT MOST 1048576: true; the input reads as it did. -/
def fnTiesOfUptoRow : OpenClaim := { program := "ythemnkcgpcgilaa", sum := "f9a995963b2ea2433f9581fb967a132bb8cf2323d8bc707331a755fe07f597ca", func := "loop.example/countedchances/laws.FnTiesOf", spec := "fnTiesOf", unfollowed := true, recurses := true, apart := false, narrowed := true }
def FnTiesOfUptoSaid : Prop := fnTiesOfUptoRow.holds Try.pinned (OpenSpec.upto fnTiesOfSpec)

/-- 'laws.FnExactEdgeOf', WHERE WHAT IT READS IS OF BULK AT MOST 1048576: true; the input reads as it did. -/
def fnExactEdgeOfUptoRow : OpenClaim := { program := "ythemnkcgpcgilaa", sum := "f9a995963b2ea2433f9581fb967a132bb8cf2323d8bc707331a755fe07f597ca", func := "loop.example/countedchances/laws.FnExactEdgeOf", spec := "fnExactEdgeOf", unfollowed := true, recurses := true, apart := false, narrowed := true }
def FnExactEdgeOfUptoSaid : Prop := fnExactEdgeOfUptoRow.holds Try.pinned (OpenSpec.upto fnExactEdgeOfSpec)

/-- 'laws.FnExactClosedBy', WHERE WHAT IT READS IS OF BULK AT MOST 1048576: true; the input reads as it did. -/
def fnExactClosedByUptoRow : OpenClaim := { program := "ythemnkcgpcgilaa", sum := "f9a995963b2ea2433f9581fb967a132bb8cf2323d8bc707331a755fe07f597ca", func := "loop.example/countedchances/laws.FnExactClosedBy", spec := "fnExactClosedBy", unfollowed := true, recurses := true, apart := false, narrowed := true }
def FnExactClosedByUptoSaid : Prop := fnExactClosedByUptoRow.holds Try.pinned (OpenSpec.upto fnExactClosedBySpec)

/-- 'laws.FnExactIsTree', WHERE WHAT IT READS IS OF BULK AT MOST 1048576: true; the input reads as it did. -/
def fnExactIsTreeUptoRow : OpenClaim := { program := "ythemnkcgpcgilaa", sum := "f9a995963b2ea2433f9581fb967a132bb8cf2323d8bc707331a755fe07f597ca", func := "loop.example/countedchances/laws.FnExactIsTree", spec := "fnExactIsTree", recurses := true, apart := false, narrowed := true }
def FnExactIsTreeUptoSaid : Prop := fnExactIsTreeUptoRow.holds Try.pinned (OpenSpec.upto fnExactIsTreeSpec)

/-- 'laws.FnExactMiddlePieces', WHERE WHAT IT READS IS OF BULK AT MOST 1048576: true; the input reads as it did. -/
def fnExactMiddlePiecesUptoRow : OpenClaim := { program := "ythemnkcgpcgilaa", sum := "f9a995963b2ea2433f9581fb967a132bb8cf2323d8bc707331a755fe07f597ca", func := "loop.example/countedchances/laws.FnExactMiddlePieces", spec := "fnExactMiddlePieces", unfollowed := true, recurses := true, apart := false, narrowed := true }
def FnExactMiddlePiecesUptoSaid : Prop := fnExactMiddlePiecesUptoRow.holds Try.pinned (OpenSpec.upto fnExactMiddlePiecesSpec)

end Rows
end Go.Proofs.Ythemnkcgpcgilaa
