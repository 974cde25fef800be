/-
  No cell of these rows narrows 'for every input' (looked for: loops, veiled, ifaces, maps, wideKeys, modest, calm, conditions, laid).
  DERIVED. THE GIVEN ROWS OF THIS SEAT. 10 by the template 'for every input the law returns true; each argument reads behind the call as it read before'; 0 by the template 'total and deterministic' (their statements: YtjkadlmlkcanpaaTotals.lean).
  GIVEN WITH THE SEED: the statements are not yours to turn. If you find one false, say at which input.
  Laid BY PROGRAM, IN A SANDBOX (cutbox-rows.mjs): the forced cells as the released guide's own fill.sh prints them over the translation 9440e5a60e32e281… (all of the seat's roots in one cut). By AI agents, Wed Nov 11 2026. No macro, syntax, notation, axiom, sorry.
-/
import Derived.Test.YtjkadlmlkcanpaaChecked
import GoSem.Claim
import GoSem.ClaimJoined
import GoSem.ClaimMapViews
import Derived.JoinedTies
import Derived.KernelRfl
namespace Go.Proofs.Ytjkadlmlkcanpaa
/- THE CELL 'sum', in the pinned program and in every row, IS THE sha256 OF THE DUMP (.gsa) THAT YtjkadlmlkcanpaaProg.lean LOADS. Nothing in Lean hashes anything: it is a label: what it is worth is what the hold of that sum in a sandbox is worth. -/
noncomputable def Try.pinned : Pinned := { name := "ytjkadlmlkcanpaa", sum := "9440e5a60e32e281fa8d176c770ea700f669b606b1f257f09fd2ff342a02b03d", checked := Try.checked }
namespace Rows
def none {H : Type} : Left H := { results := [], args := [] }

/-- 'laws.FnExactStepDown': WHATEVER THE INPUT: true; the input reads as it did. -/
def fnExactStepDownSpec : ChangeSpec := { name := "fnExactStepDown", fn := fun _ => fun
  | [d] => { results := [.lit (.bool true)], args := [d] }
  | _ => none }
def fnExactStepDownRow : OpenClaim := { program := "ytjkadlmlkcanpaa", sum := "9440e5a60e32e281fa8d176c770ea700f669b606b1f257f09fd2ff342a02b03d", func := "loop.example/countedchances/laws.FnExactStepDown", spec := "fnExactStepDown", unfollowed := true, recurses := true, apart := false }
def FnExactStepDownSaid : Prop := fnExactStepDownRow.holds Try.pinned (OpenSpec.ofChange fnExactStepDownSpec)

/-- ITS FALSE NEIGHBOUR: 'it returns false'. Refute it at one input. -/
def fnExactStepDownWrong : ChangeSpec := { name := "fnExactStepDown", fn := fun _ => fun
  | [d] => { results := [.lit (.bool false)], args := [d] }
  | _ => none }
def FnExactStepDownWrongFalsely : Prop := fnExactStepDownRow.holds Try.pinned (OpenSpec.ofChange fnExactStepDownWrong)

/-- 'laws.FnExactStepUp': WHATEVER THE INPUT: true; the input reads as it did. -/
def fnExactStepUpSpec : ChangeSpec := { name := "fnExactStepUp", fn := fun _ => fun
  | [d] => { results := [.lit (.bool true)], args := [d] }
  | _ => none }
def fnExactStepUpRow : OpenClaim := { program := "ytjkadlmlkcanpaa", sum := "9440e5a60e32e281fa8d176c770ea700f669b606b1f257f09fd2ff342a02b03d", func := "loop.example/countedchances/laws.FnExactStepUp", spec := "fnExactStepUp", unfollowed := true, recurses := true, apart := false }
def FnExactStepUpSaid : Prop := fnExactStepUpRow.holds Try.pinned (OpenSpec.ofChange fnExactStepUpSpec)

/-- ITS FALSE NEIGHBOUR: 'it returns false'. Refute it at one input. -/
def fnExactStepUpWrong : ChangeSpec := { name := "fnExactStepUp", fn := fun _ => fun
  | [d] => { results := [.lit (.bool false)], args := [d] }
  | _ => none }
def FnExactStepUpWrongFalsely : Prop := fnExactStepUpRow.holds Try.pinned (OpenSpec.ofChange fnExactStepUpWrong)

/-- 'laws.FnExactFalseShare': WHATEVER THE INPUT: true; the input reads as it did. -/
def fnExactFalseShareSpec : ChangeSpec := { name := "fnExactFalseShare", fn := fun _ => fun
  | [d] => { results := [.lit (.bool true)], args := [d] }
  | _ => none }
def fnExactFalseShareRow : OpenClaim := { program := "ytjkadlmlkcanpaa", sum := "9440e5a60e32e281fa8d176c770ea700f669b606b1f257f09fd2ff342a02b03d", func := "loop.example/countedchances/laws.FnExactFalseShare", spec := "fnExactFalseShare", unfollowed := true, recurses := true, apart := false }
def FnExactFalseShareSaid : Prop := fnExactFalseShareRow.holds Try.pinned (OpenSpec.ofChange fnExactFalseShareSpec)

/-- ITS FALSE NEIGHBOUR: 'it returns false'. Refute it at one input. -/
def fnExactFalseShareWrong : ChangeSpec := { name := "fnExactFalseShare", fn := fun _ => fun
  | [d] => { results := [.lit (.bool false)], args := [d] }
  | _ => none }
def FnExactFalseShareWrongFalsely : Prop := fnExactFalseShareRow.holds Try.pinned (OpenSpec.ofChange fnExactFalseShareWrong)

/-- 'laws.FnTimesAll': WHATEVER THE INPUT: true; the input reads as it did. -/
def fnTimesAllSpec : ChangeSpec := { name := "fnTimesAll", fn := fun _ => fun
  | [d] => { results := [.lit (.bool true)], args := [d] }
  | _ => none }
def fnTimesAllRow : OpenClaim := { program := "ytjkadlmlkcanpaa", sum := "9440e5a60e32e281fa8d176c770ea700f669b606b1f257f09fd2ff342a02b03d", func := "loop.example/countedchances/laws.FnTimesAll", spec := "fnTimesAll", unfollowed := true, recurses := true, apart := false }
def FnTimesAllSaid : Prop := fnTimesAllRow.holds Try.pinned (OpenSpec.ofChange fnTimesAllSpec)

/-- ITS FALSE NEIGHBOUR: 'it returns false'. Refute it at one input. -/
def fnTimesAllWrong : ChangeSpec := { name := "fnTimesAll", fn := fun _ => fun
  | [d] => { results := [.lit (.bool false)], args := [d] }
  | _ => none }
def FnTimesAllWrongFalsely : Prop := fnTimesAllRow.holds Try.pinned (OpenSpec.ofChange fnTimesAllWrong)

/-- 'laws.FnFalseShare': WHATEVER THE INPUT: true; the input reads as it did. -/
def fnFalseShareSpec : ChangeSpec := { name := "fnFalseShare", fn := fun _ => fun
  | [d] => { results := [.lit (.bool true)], args := [d] }
  | _ => none }
def fnFalseShareRow : OpenClaim := { program := "ytjkadlmlkcanpaa", sum := "9440e5a60e32e281fa8d176c770ea700f669b606b1f257f09fd2ff342a02b03d", func := "loop.example/countedchances/laws.FnFalseShare", spec := "fnFalseShare", unfollowed := true, recurses := true, apart := false }
def FnFalseShareSaid : Prop := fnFalseShareRow.holds Try.pinned (OpenSpec.ofChange fnFalseShareSpec)

/-- ITS FALSE NEIGHBOUR: 'it returns false'. Refute it at one input. -/
def fnFalseShareWrong : ChangeSpec := { name := "fnFalseShare", fn := fun _ => fun
  | [d] => { results := [.lit (.bool false)], args := [d] }
  | _ => none }
def FnFalseShareWrongFalsely : Prop := fnFalseShareRow.holds Try.pinned (OpenSpec.ofChange fnFalseShareWrong)

/-- 'laws.FnExactMarkOf': WHATEVER THE INPUT: true; the input reads as it did. -/
def fnExactMarkOfSpec : ChangeSpec := { name := "fnExactMarkOf", fn := fun _ => fun
  | [d1, d2, d3, d4] => { results := [.lit (.bool true)], args := [d1, d2, d3, d4] }
  | _ => none }
def fnExactMarkOfRow : OpenClaim := { program := "ytjkadlmlkcanpaa", sum := "9440e5a60e32e281fa8d176c770ea700f669b606b1f257f09fd2ff342a02b03d", func := "loop.example/countedchances/laws.FnExactMarkOf", spec := "fnExactMarkOf", unfollowed := true, recurses := true, apart := false }
def FnExactMarkOfSaid : Prop := fnExactMarkOfRow.holds Try.pinned (OpenSpec.ofChange fnExactMarkOfSpec)

/-- ITS FALSE NEIGHBOUR: 'it returns false'. Refute it at one input. -/
def fnExactMarkOfWrong : ChangeSpec := { name := "fnExactMarkOf", fn := fun _ => fun
  | [d1, d2, d3, d4] => { results := [.lit (.bool false)], args := [d1, d2, d3, d4] }
  | _ => none }
def FnExactMarkOfWrongFalsely : Prop := fnExactMarkOfRow.holds Try.pinned (OpenSpec.ofChange fnExactMarkOfWrong)

/-- 'laws.FnMarkOf': WHATEVER THE INPUT: true; the input reads as it did. -/
def fnMarkOfSpec : ChangeSpec := { name := "fnMarkOf", fn := fun _ => fun
  | [d] => { results := [.lit (.bool true)], args := [d] }
  | _ => none }
def fnMarkOfRow : OpenClaim := { program := "ytjkadlmlkcanpaa", sum := "9440e5a60e32e281fa8d176c770ea700f669b606b1f257f09fd2ff342a02b03d", func := "loop.example/countedchances/laws.FnMarkOf", spec := "fnMarkOf", unfollowed := true, recurses := true, apart := false }
def FnMarkOfSaid : Prop := fnMarkOfRow.holds Try.pinned (OpenSpec.ofChange fnMarkOfSpec)

/-- ITS FALSE NEIGHBOUR: 'it returns false'. Refute it at one input. -/
def fnMarkOfWrong : ChangeSpec := { name := "fnMarkOf", fn := fun _ => fun
  | [d] => { results := [.lit (.bool false)], args := [d] }
  | _ => none }
def FnMarkOfWrongFalsely : Prop := fnMarkOfRow.holds Try.pinned (OpenSpec.ofChange fnMarkOfWrong)

/-- 'laws.FnExactEdgeOf': WHATEVER THE INPUT: true; the input reads as it did. -/
def fnExactEdgeOfSpec : ChangeSpec := { name := "fnExactEdgeOf", fn := fun _ => fun
  | [d1, d2] => { results := [.lit (.bool true)], args := [d1, d2] }
  | _ => none }
def fnExactEdgeOfRow : OpenClaim := { program := "ytjkadlmlkcanpaa", sum := "9440e5a60e32e281fa8d176c770ea700f669b606b1f257f09fd2ff342a02b03d", func := "loop.example/countedchances/laws.FnExactEdgeOf", spec := "fnExactEdgeOf", unfollowed := true, recurses := true, apart := false }
def FnExactEdgeOfSaid : Prop := fnExactEdgeOfRow.holds Try.pinned (OpenSpec.ofChange fnExactEdgeOfSpec)

/-- ITS FALSE NEIGHBOUR: 'it returns false'. Refute it at one input. -/
def fnExactEdgeOfWrong : ChangeSpec := { name := "fnExactEdgeOf", fn := fun _ => fun
  | [d1, d2] => { results := [.lit (.bool false)], args := [d1, d2] }
  | _ => none }
def FnExactEdgeOfWrongFalsely : Prop := fnExactEdgeOfRow.holds Try.pinned (OpenSpec.ofChange fnExactEdgeOfWrong)

/-- 'laws.FnTablesWith': WHATEVER THE INPUT: true; the input reads as it did. -/
def fnTablesWithSpec : ChangeSpec := { name := "fnTablesWith", fn := fun _ => fun
  | [d] => { results := [.lit (.bool true)], args := [d] }
  | _ => none }
def fnTablesWithRow : OpenClaim := { program := "ytjkadlmlkcanpaa", sum := "9440e5a60e32e281fa8d176c770ea700f669b606b1f257f09fd2ff342a02b03d", func := "loop.example/countedchances/laws.FnTablesWith", spec := "fnTablesWith", unfollowed := true, recurses := true, apart := false }
def FnTablesWithSaid : Prop := fnTablesWithRow.holds Try.pinned (OpenSpec.ofChange fnTablesWithSpec)

/-- ITS FALSE NEIGHBOUR: 'it returns false'. Refute it at one input. -/
def fnTablesWithWrong : ChangeSpec := { name := "fnTablesWith", fn := fun _ => fun
  | [d] => { results := [.lit (.bool false)], args := [d] }
  | _ => none }
def FnTablesWithWrongFalsely : Prop := fnTablesWithRow.holds Try.pinned (OpenSpec.ofChange fnTablesWithWrong)

/-- 'laws.FnExactClosedBy': WHATEVER THE INPUT: true; the input reads as it did. -/
def fnExactClosedBySpec : ChangeSpec := { name := "fnExactClosedBy", fn := fun _ => fun
  | [d1, d2, d3] => { results := [.lit (.bool true)], args := [d1, d2, d3] }
  | _ => none }
def fnExactClosedByRow : OpenClaim := { program := "ytjkadlmlkcanpaa", sum := "9440e5a60e32e281fa8d176c770ea700f669b606b1f257f09fd2ff342a02b03d", func := "loop.example/countedchances/laws.FnExactClosedBy", spec := "fnExactClosedBy", unfollowed := true, recurses := true, apart := false }
def FnExactClosedBySaid : Prop := fnExactClosedByRow.holds Try.pinned (OpenSpec.ofChange fnExactClosedBySpec)

/-- ITS FALSE NEIGHBOUR: 'it returns false'. Refute it at one input. -/
def fnExactClosedByWrong : ChangeSpec := { name := "fnExactClosedBy", fn := fun _ => fun
  | [d1, d2, d3] => { results := [.lit (.bool false)], args := [d1, d2, d3] }
  | _ => none }
def FnExactClosedByWrongFalsely : Prop := fnExactClosedByRow.holds Try.pinned (OpenSpec.ofChange fnExactClosedByWrong)

/- THE SECOND FORM. 'bulk': how many values and letters a reading holds, each counted each time it is reached (what is shared counts as often as it is met; a slice's spare places count too). A statement '..UptoSaid' is the law's where the arguments, and the package variables that the reading takes, are together of bulk at most 1048576: NARROWER than '..Said'. Prove '..Said' where nothing that the law and all that it calls make is longer than what came in: it says more and counts as full. Else prove '..UptoSaid'. A law counts once. -/
mutual
def uptoBulk {H : Type} : DataW H → Nat
  | .lit (.string bytes) => bytes.length + 1
  | .lit _ => 1
  | .nil => 1
  | .ptr d => uptoBulk d + 1
  | .slice elems spare => uptoBulkAll elems + uptoBulkAll spare + 1
  | .agg parts => uptoBulkAll parts + 1
  | .iface _ d => uptoBulk d + 1
  | .map entries => uptoBulkEntries entries + 1
  | .held _ => 1
def uptoBulkAll {H : Type} : List (DataW H) → Nat
  | [] => 0
  | d :: r => uptoBulk d + uptoBulkAll r
def uptoBulkEntries {H : Type} : List (Lit × DataW H) → Nat
  | [] => 0
  | x :: r => uptoBulkEntry x + uptoBulkEntries r
def uptoBulkEntry {H : Type} : Lit × DataW H → Nat
  | (.string bytes, d) => bytes.length + uptoBulk d + 1
  | (_, d) => uptoBulk d + 1
 end
def uptoSmall : (H : Type) → List (DataW H) → Bool := fun _ ds => decide (uptoBulkAll ds ≤ 1048576)
def OpenSpec.upto (s : _root_.Go.ChangeSpec) : _root_.Go.OpenSpec := { _root_.Go.OpenSpec.ofChange s with cond := some uptoSmall }

/-- 'laws.FnExactStepDown', WHERE WHAT IT READS IS OF BULK AT MOST 1048576: true; the input reads as it did. -/
def fnExactStepDownUptoRow : OpenClaim := { program := "ytjkadlmlkcanpaa", sum := "9440e5a60e32e281fa8d176c770ea700f669b606b1f257f09fd2ff342a02b03d", func := "loop.example/countedchances/laws.FnExactStepDown", spec := "fnExactStepDown", unfollowed := true, recurses := true, apart := false, narrowed := true }
def FnExactStepDownUptoSaid : Prop := fnExactStepDownUptoRow.holds Try.pinned (OpenSpec.upto fnExactStepDownSpec)

/-- 'laws.FnExactStepUp', WHERE WHAT IT READS IS OF BULK AT MOST 1048576: true; the input reads as it did. -/
def fnExactStepUpUptoRow : OpenClaim := { program := "ytjkadlmlkcanpaa", sum := "9440e5a60e32e281fa8d176c770ea700f669b606b1f257f09fd2ff342a02b03d", func := "loop.example/countedchances/laws.FnExactStepUp", spec := "fnExactStepUp", unfollowed := true, recurses := true, apart := false, narrowed := true }
def FnExactStepUpUptoSaid : Prop := fnExactStepUpUptoRow.holds Try.pinned (OpenSpec.upto fnExactStepUpSpec)

/-- 'laws.FnExactFalseShare', WHERE WHAT IT READS IS OF BULK AT MOST 1048576: true; the input reads as it did. -/
def fnExactFalseShareUptoRow : OpenClaim := { program := "ytjkadlmlkcanpaa", sum := "9440e5a60e32e281fa8d176c770ea700f669b606b1f257f09fd2ff342a02b03d", func := "loop.example/countedchances/laws.FnExactFalseShare", spec := "fnExactFalseShare", unfollowed := true, recurses := true, apart := false, narrowed := true }
def FnExactFalseShareUptoSaid : Prop := fnExactFalseShareUptoRow.holds Try.pinned (OpenSpec.upto fnExactFalseShareSpec)

/-- 'laws.FnTimesAll', WHERE WHAT IT READS IS OF BULK AT MOST 1048576: true; the input reads as it did. -/
def fnTimesAllUptoRow : OpenClaim := { program := "ytjkadlmlkcanpaa", sum := "9440e5a60e32e281fa8d176c770ea700f669b606b1f257f09fd2ff342a02b03d", func := "loop.example/countedchances/laws.FnTimesAll", spec := "fnTimesAll", unfollowed := true, recurses := true, apart := false, narrowed := true }
def FnTimesAllUptoSaid : Prop := fnTimesAllUptoRow.holds Try.pinned (OpenSpec.upto fnTimesAllSpec)

/-- 'laws.FnFalseShare', WHERE WHAT IT READS IS OF BULK AT MOST 1048576: true; the input reads as it did. -/
def fnFalseShareUptoRow : OpenClaim := { program := "ytjkadlmlkcanpaa", sum := "9440e5a60e32e281fa8d176c770ea700f669b606b1f257f09fd2ff342a02b03d", func := "loop.example/countedchances/laws.FnFalseShare", spec := "fnFalseShare", unfollowed := true, recurses := true, apart := false, narrowed := true }
def FnFalseShareUptoSaid : Prop := fnFalseShareUptoRow.holds Try.pinned (OpenSpec.upto fnFalseShareSpec)

/-- 'laws.FnExactMarkOf', WHERE WHAT IT READS IS OF BULK AT MOST 1048576: true; the input reads as it did. -/
def fnExactMarkOfUptoRow : OpenClaim := { program := "ytjkadlmlkcanpaa", sum := "9440e5a60e32e281fa8d176c770ea700f669b606b1f257f09fd2ff342a02b03d", func := "loop.example/countedchances/laws.FnExactMarkOf", spec := "fnExactMarkOf", unfollowed := true, recurses := true, apart := false, narrowed := true }
def FnExactMarkOfUptoSaid : Prop := fnExactMarkOfUptoRow.holds Try.pinned (OpenSpec.upto fnExactMarkOfSpec)

/-- 'laws.FnMarkOf', WHERE WHAT IT READS IS OF BULK AT MOST 1048576: true; the input reads as it did. -/
def fnMarkOfUptoRow : OpenClaim := { program := "ytjkadlmlkcanpaa", sum := "9440e5a60e32e281fa8d176c770ea700f669b606b1f257f09fd2ff342a02b03d", func := "loop.example/countedchances/laws.FnMarkOf", spec := "fnMarkOf", unfollowed := true, recurses := true, apart := false, narrowed := true }
def FnMarkOfUptoSaid : Prop := fnMarkOfUptoRow.holds Try.pinned (OpenSpec.upto fnMarkOfSpec)

/-- 'laws.FnExactEdgeOf', WHERE WHAT IT READS IS OF BULK AT MOST 1048576: true; the input reads as it did. -/
def fnExactEdgeOfUptoRow : OpenClaim := { program := "ytjkadlmlkcanpaa", sum := "9440e5a60e32e281fa8d176c770ea700f669b606b1f257f09fd2ff342a02b03d", func := "loop.example/countedchances/laws.FnExactEdgeOf", spec := "fnExactEdgeOf", unfollowed := true, recurses := true, apart := false, narrowed := true }
def FnExactEdgeOfUptoSaid : Prop := fnExactEdgeOfUptoRow.holds Try.pinned (OpenSpec.upto fnExactEdgeOfSpec)

/-- 'laws.FnTablesWith', WHERE WHAT IT READS IS OF BULK AT MOST 1048576: true; the input reads as it did. -/
def fnTablesWithUptoRow : OpenClaim := { program := "ytjkadlmlkcanpaa", sum := "9440e5a60e32e281fa8d176c770ea700f669b606b1f257f09fd2ff342a02b03d", func := "loop.example/countedchances/laws.FnTablesWith", spec := "fnTablesWith", unfollowed := true, recurses := true, apart := false, narrowed := true }
def FnTablesWithUptoSaid : Prop := fnTablesWithUptoRow.holds Try.pinned (OpenSpec.upto fnTablesWithSpec)

/-- 'laws.FnExactClosedBy', WHERE WHAT IT READS IS OF BULK AT MOST 1048576: true; the input reads as it did. -/
def fnExactClosedByUptoRow : OpenClaim := { program := "ytjkadlmlkcanpaa", sum := "9440e5a60e32e281fa8d176c770ea700f669b606b1f257f09fd2ff342a02b03d", func := "loop.example/countedchances/laws.FnExactClosedBy", spec := "fnExactClosedBy", unfollowed := true, recurses := true, apart := false, narrowed := true }
def FnExactClosedByUptoSaid : Prop := fnExactClosedByUptoRow.holds Try.pinned (OpenSpec.upto fnExactClosedBySpec)

end Rows
end Go.Proofs.Ytjkadlmlkcanpaa
