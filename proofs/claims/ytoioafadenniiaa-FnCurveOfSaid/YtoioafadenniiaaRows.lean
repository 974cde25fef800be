/-
  No cell of these rows narrows 'for every input' (looked for: loops, veiled, ifaces, maps, wideKeys, modest, calm, conditions, laid).
  DERIVED. THE GIVEN ROWS OF THIS SEAT. 7 by the template 'for every input the law returns true; each argument reads behind the call as it read before'; 0 by the template 'total and deterministic' (their statements: YtoioafadenniiaaTotals.lean).
  GIVEN WITH THE SEED: the statements are not yours to turn. If you find one false, say at which input.
  Laid BY PROGRAM, IN A SANDBOX (cutbox-rows.mjs): the forced cells as the released guide's own fill.sh prints them over the translation 8f3e666a3210dd1f… (all of the seat's roots in one cut). By AI agents, Wed Nov 11 2026. No macro, syntax, notation, axiom, sorry.
-/
import Derived.Test.YtoioafadenniiaaChecked
import GoSem.Claim
import GoSem.ClaimJoined
import GoSem.ClaimMapViews
import Derived.JoinedTies
import Derived.KernelRfl
namespace Go.Proofs.Ytoioafadenniiaa
/- THE CELL 'sum', in the pinned program and in every row, IS THE sha256 OF THE DUMP (.gsa) THAT YtoioafadenniiaaProg.lean LOADS. Nothing in Lean hashes anything: it is a label: what it is worth is what the hold of that sum in a sandbox is worth. -/
noncomputable def Try.pinned : Pinned := { name := "ytoioafadenniiaa", sum := "8f3e666a3210dd1fe6c207b199fcbe92bb305e60d2b6616684a5648ac539dd6b", checked := Try.checked }
namespace Rows
def none {H : Type} : Left H := { results := [], args := [] }

/-- 'laws.FnExactCurveOf': WHATEVER THE INPUT: true; the input reads as it did. -/
def fnExactCurveOfSpec : ChangeSpec := { name := "fnExactCurveOf", fn := fun _ => fun
  | [d1, d2] => { results := [.lit (.bool true)], args := [d1, d2] }
  | _ => none }
def fnExactCurveOfRow : OpenClaim := { program := "ytoioafadenniiaa", sum := "8f3e666a3210dd1fe6c207b199fcbe92bb305e60d2b6616684a5648ac539dd6b", func := "loop.example/countedchances/laws.FnExactCurveOf", spec := "fnExactCurveOf", unfollowed := true, recurses := true, apart := false }
def FnExactCurveOfSaid : Prop := fnExactCurveOfRow.holds Try.pinned (OpenSpec.ofChange fnExactCurveOfSpec)

/-- ITS FALSE NEIGHBOUR: 'it returns false'. Refute it at one input. -/
def fnExactCurveOfWrong : ChangeSpec := { name := "fnExactCurveOf", fn := fun _ => fun
  | [d1, d2] => { results := [.lit (.bool false)], args := [d1, d2] }
  | _ => none }
def FnExactCurveOfWrongFalsely : Prop := fnExactCurveOfRow.holds Try.pinned (OpenSpec.ofChange fnExactCurveOfWrong)

/-- 'laws.FnExactStripByThrees': WHATEVER THE INPUT: true; the input reads as it did. -/
def fnExactStripByThreesSpec : ChangeSpec := { name := "fnExactStripByThrees", fn := fun _ => fun
  | [d1, d2] => { results := [.lit (.bool true)], args := [d1, d2] }
  | _ => none }
def fnExactStripByThreesRow : OpenClaim := { program := "ytoioafadenniiaa", sum := "8f3e666a3210dd1fe6c207b199fcbe92bb305e60d2b6616684a5648ac539dd6b", func := "loop.example/countedchances/laws.FnExactStripByThrees", spec := "fnExactStripByThrees", unfollowed := true, recurses := true, apart := false }
def FnExactStripByThreesSaid : Prop := fnExactStripByThreesRow.holds Try.pinned (OpenSpec.ofChange fnExactStripByThreesSpec)

/-- ITS FALSE NEIGHBOUR: 'it returns false'. Refute it at one input. -/
def fnExactStripByThreesWrong : ChangeSpec := { name := "fnExactStripByThrees", fn := fun _ => fun
  | [d1, d2] => { results := [.lit (.bool false)], args := [d1, d2] }
  | _ => none }
def FnExactStripByThreesWrongFalsely : Prop := fnExactStripByThreesRow.holds Try.pinned (OpenSpec.ofChange fnExactStripByThreesWrong)

/-- 'laws.FnCurveAt': WHATEVER THE INPUT: true; the input reads as it did. -/
def fnCurveAtSpec : ChangeSpec := { name := "fnCurveAt", fn := fun _ => fun
  | [d] => { results := [.lit (.bool true)], args := [d] }
  | _ => none }
def fnCurveAtRow : OpenClaim := { program := "ytoioafadenniiaa", sum := "8f3e666a3210dd1fe6c207b199fcbe92bb305e60d2b6616684a5648ac539dd6b", func := "loop.example/countedchances/laws.FnCurveAt", spec := "fnCurveAt", unfollowed := true, recurses := true, apart := false }
def FnCurveAtSaid : Prop := fnCurveAtRow.holds Try.pinned (OpenSpec.ofChange fnCurveAtSpec)

/-- ITS FALSE NEIGHBOUR: 'it returns false'. Refute it at one input. -/
def fnCurveAtWrong : ChangeSpec := { name := "fnCurveAt", fn := fun _ => fun
  | [d] => { results := [.lit (.bool false)], args := [d] }
  | _ => none }
def FnCurveAtWrongFalsely : Prop := fnCurveAtRow.holds Try.pinned (OpenSpec.ofChange fnCurveAtWrong)

/-- 'laws.FnSquareLine': WHATEVER THE INPUT: true; the input reads as it did. -/
def fnSquareLineSpec : ChangeSpec := { name := "fnSquareLine", fn := fun _ => fun
  | [d] => { results := [.lit (.bool true)], args := [d] }
  | _ => none }
def fnSquareLineRow : OpenClaim := { program := "ytoioafadenniiaa", sum := "8f3e666a3210dd1fe6c207b199fcbe92bb305e60d2b6616684a5648ac539dd6b", func := "loop.example/countedchances/laws.FnSquareLine", spec := "fnSquareLine", unfollowed := true, recurses := true, apart := false }
def FnSquareLineSaid : Prop := fnSquareLineRow.holds Try.pinned (OpenSpec.ofChange fnSquareLineSpec)

/-- ITS FALSE NEIGHBOUR: 'it returns false'. Refute it at one input. -/
def fnSquareLineWrong : ChangeSpec := { name := "fnSquareLine", fn := fun _ => fun
  | [d] => { results := [.lit (.bool false)], args := [d] }
  | _ => none }
def FnSquareLineWrongFalsely : Prop := fnSquareLineRow.holds Try.pinned (OpenSpec.ofChange fnSquareLineWrong)

/-- 'laws.FnCurveOf': WHATEVER THE INPUT: true; the input reads as it did. -/
def fnCurveOfSpec : ChangeSpec := { name := "fnCurveOf", fn := fun _ => fun
  | [d] => { results := [.lit (.bool true)], args := [d] }
  | _ => none }
def fnCurveOfRow : OpenClaim := { program := "ytoioafadenniiaa", sum := "8f3e666a3210dd1fe6c207b199fcbe92bb305e60d2b6616684a5648ac539dd6b", func := "loop.example/countedchances/laws.FnCurveOf", spec := "fnCurveOf", unfollowed := true, recurses := true, apart := false }
def FnCurveOfSaid : Prop := fnCurveOfRow.holds Try.pinned (OpenSpec.ofChange fnCurveOfSpec)

/-- ITS FALSE NEIGHBOUR: 'it returns false'. Refute it at one input. -/
def fnCurveOfWrong : ChangeSpec := { name := "fnCurveOf", fn := fun _ => fun
  | [d] => { results := [.lit (.bool false)], args := [d] }
  | _ => none }
def FnCurveOfWrongFalsely : Prop := fnCurveOfRow.holds Try.pinned (OpenSpec.ofChange fnCurveOfWrong)

/-- 'laws.FnStripByThrees': WHATEVER THE INPUT: true; the input reads as it did. -/
def fnStripByThreesSpec : ChangeSpec := { name := "fnStripByThrees", fn := fun _ => fun
  | [d] => { results := [.lit (.bool true)], args := [d] }
  | _ => none }
def fnStripByThreesRow : OpenClaim := { program := "ytoioafadenniiaa", sum := "8f3e666a3210dd1fe6c207b199fcbe92bb305e60d2b6616684a5648ac539dd6b", func := "loop.example/countedchances/laws.FnStripByThrees", spec := "fnStripByThrees", unfollowed := true, recurses := true, apart := false }
def FnStripByThreesSaid : Prop := fnStripByThreesRow.holds Try.pinned (OpenSpec.ofChange fnStripByThreesSpec)

/-- ITS FALSE NEIGHBOUR: 'it returns false'. Refute it at one input. -/
def fnStripByThreesWrong : ChangeSpec := { name := "fnStripByThrees", fn := fun _ => fun
  | [d] => { results := [.lit (.bool false)], args := [d] }
  | _ => none }
def FnStripByThreesWrongFalsely : Prop := fnStripByThreesRow.holds Try.pinned (OpenSpec.ofChange fnStripByThreesWrong)

/-- 'laws.FnNearLine': WHATEVER THE INPUT: true; the input reads as it did. -/
def fnNearLineSpec : ChangeSpec := { name := "fnNearLine", fn := fun _ => fun
  | [d] => { results := [.lit (.bool true)], args := [d] }
  | _ => none }
def fnNearLineRow : OpenClaim := { program := "ytoioafadenniiaa", sum := "8f3e666a3210dd1fe6c207b199fcbe92bb305e60d2b6616684a5648ac539dd6b", func := "loop.example/countedchances/laws.FnNearLine", spec := "fnNearLine", unfollowed := true, recurses := true, apart := false }
def FnNearLineSaid : Prop := fnNearLineRow.holds Try.pinned (OpenSpec.ofChange fnNearLineSpec)

/-- ITS FALSE NEIGHBOUR: 'it returns false'. Refute it at one input. -/
def fnNearLineWrong : ChangeSpec := { name := "fnNearLine", fn := fun _ => fun
  | [d] => { results := [.lit (.bool false)], args := [d] }
  | _ => none }
def FnNearLineWrongFalsely : Prop := fnNearLineRow.holds Try.pinned (OpenSpec.ofChange fnNearLineWrong)

/- THE SECOND FORM. 'bulk': how many values and letters a reading holds, each counted each time it is reached (what is shared counts as often as it is met; a slice's spare places count too). A statement '..UptoSaid' is the law's where the arguments, and the package variables that the reading takes, are together of bulk at most 1048576: NARROWER than '..Said'. Prove '..Said' where nothing that the law and all that it calls make is longer than what came in: it says more and counts as full. Else prove '..UptoSaid'. A law counts once. -/
mutual
def uptoBulk {H : Type} : DataW H → Nat
  | .lit (.string bytes) => bytes.length + 1
  | .lit _ => 1
  | .nil => 1
  | .ptr d => uptoBulk d + 1
  | .slice elems spare => uptoBulkAll elems + uptoBulkAll spare + 1
  | .agg parts => uptoBulkAll parts + 1
  | .iface _ d => uptoBulk d + 1
  | .map entries => uptoBulkEntries entries + 1
  | .held _ => 1
def uptoBulkAll {H : Type} : List (DataW H) → Nat
  | [] => 0
  | d :: r => uptoBulk d + uptoBulkAll r
def uptoBulkEntries {H : Type} : List (Lit × DataW H) → Nat
  | [] => 0
  | x :: r => uptoBulkEntry x + uptoBulkEntries r
def uptoBulkEntry {H : Type} : Lit × DataW H → Nat
  | (.string bytes, d) => bytes.length + uptoBulk d + 1
  | (_, d) => uptoBulk d + 1
 end
def uptoSmall : (H : Type) → List (DataW H) → Bool := fun _ ds => decide (uptoBulkAll ds ≤ 1048576)
def OpenSpec.upto (s : _root_.Go.ChangeSpec) : _root_.Go.OpenSpec := { _root_.Go.OpenSpec.ofChange s with cond := some uptoSmall }

/-- 'laws.FnExactCurveOf', WHERE WHAT IT READS IS OF BULK AT MOST 1048576: true; the input reads as it did. -/
def fnExactCurveOfUptoRow : OpenClaim := { program := "ytoioafadenniiaa", sum := "8f3e666a3210dd1fe6c207b199fcbe92bb305e60d2b6616684a5648ac539dd6b", func := "loop.example/countedchances/laws.FnExactCurveOf", spec := "fnExactCurveOf", unfollowed := true, recurses := true, apart := false, narrowed := true }
def FnExactCurveOfUptoSaid : Prop := fnExactCurveOfUptoRow.holds Try.pinned (OpenSpec.upto fnExactCurveOfSpec)

/-- 'laws.FnExactStripByThrees', WHERE WHAT IT READS IS OF BULK AT MOST 1048576: true; the input reads as it did. -/
def fnExactStripByThreesUptoRow : OpenClaim := { program := "ytoioafadenniiaa", sum := "8f3e666a3210dd1fe6c207b199fcbe92bb305e60d2b6616684a5648ac539dd6b", func := "loop.example/countedchances/laws.FnExactStripByThrees", spec := "fnExactStripByThrees", unfollowed := true, recurses := true, apart := false, narrowed := true }
def FnExactStripByThreesUptoSaid : Prop := fnExactStripByThreesUptoRow.holds Try.pinned (OpenSpec.upto fnExactStripByThreesSpec)

/-- 'laws.FnCurveAt', WHERE WHAT IT READS IS OF BULK AT MOST 1048576: true; the input reads as it did. -/
def fnCurveAtUptoRow : OpenClaim := { program := "ytoioafadenniiaa", sum := "8f3e666a3210dd1fe6c207b199fcbe92bb305e60d2b6616684a5648ac539dd6b", func := "loop.example/countedchances/laws.FnCurveAt", spec := "fnCurveAt", unfollowed := true, recurses := true, apart := false, narrowed := true }
def FnCurveAtUptoSaid : Prop := fnCurveAtUptoRow.holds Try.pinned (OpenSpec.upto fnCurveAtSpec)

/-- 'laws.FnSquareLine', WHERE WHAT IT READS IS OF BULK AT MOST 1048576: true; the input reads as it did. -/
def fnSquareLineUptoRow : OpenClaim := { program := "ytoioafadenniiaa", sum := "8f3e666a3210dd1fe6c207b199fcbe92bb305e60d2b6616684a5648ac539dd6b", func := "loop.example/countedchances/laws.FnSquareLine", spec := "fnSquareLine", unfollowed := true, recurses := true, apart := false, narrowed := true }
def FnSquareLineUptoSaid : Prop := fnSquareLineUptoRow.holds Try.pinned (OpenSpec.upto fnSquareLineSpec)

/-- 'laws.FnCurveOf', WHERE WHAT IT READS IS OF BULK AT MOST 1048576: true; the input reads as it did. -/
def fnCurveOfUptoRow : OpenClaim := { program := "ytoioafadenniiaa", sum := "8f3e666a3210dd1fe6c207b199fcbe92bb305e60d2b6616684a5648ac539dd6b", func := "loop.example/countedchances/laws.FnCurveOf", spec := "fnCurveOf", unfollowed := true, recurses := true, apart := false, narrowed := true }
def FnCurveOfUptoSaid : Prop := fnCurveOfUptoRow.holds Try.pinned (OpenSpec.upto fnCurveOfSpec)

/-- 'laws.FnStripByThrees', WHERE WHAT IT READS IS OF BULK AT MOST 1048576: true; the input reads as it did. -/
def fnStripByThreesUptoRow : OpenClaim := { program := "ytoioafadenniiaa", sum := "8f3e666a3210dd1fe6c207b199fcbe92bb305e60d2b6616684a5648ac539dd6b", func := "loop.example/countedchances/laws.FnStripByThrees", spec := "fnStripByThrees", unfollowed := true, recurses := true, apart := false, narrowed := true }
def FnStripByThreesUptoSaid : Prop := fnStripByThreesUptoRow.holds Try.pinned (OpenSpec.upto fnStripByThreesSpec)

/-- 'laws.FnNearLine', WHERE WHAT IT READS IS OF BULK AT MOST 1048576: true; the input reads as it did. -/
def fnNearLineUptoRow : OpenClaim := { program := "ytoioafadenniiaa", sum := "8f3e666a3210dd1fe6c207b199fcbe92bb305e60d2b6616684a5648ac539dd6b", func := "loop.example/countedchances/laws.FnNearLine", spec := "fnNearLine", unfollowed := true, recurses := true, apart := false, narrowed := true }
def FnNearLineUptoSaid : Prop := fnNearLineUptoRow.holds Try.pinned (OpenSpec.upto fnNearLineSpec)

end Rows
end Go.Proofs.Ytoioafadenniiaa
