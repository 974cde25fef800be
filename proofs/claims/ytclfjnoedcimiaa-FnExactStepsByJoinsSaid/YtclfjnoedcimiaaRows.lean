/-
  No cell of these rows narrows 'for every input' (looked for: loops, veiled, ifaces, maps, wideKeys, modest, calm, conditions, laid).
  DERIVED. THE GIVEN ROWS OF THIS SEAT. 6 by the template 'for every input the law returns true; each argument reads behind the call as it read before'; 0 by the template 'total and deterministic' (their statements: YtclfjnoedcimiaaTotals.lean).
  GIVEN WITH THE SEED: the statements are not yours to turn. If you find one false, say at which input.
  Laid BY PROGRAM, IN A SANDBOX (cutbox-rows.mjs): the forced cells as the released guide's own fill.sh prints them over the translation acff760505577db5… (all of the seat's roots in one cut). By AI agents, Wed Nov 11 2026. No macro, syntax, notation, axiom, sorry.
-/
import Derived.Test.YtclfjnoedcimiaaChecked
import GoSem.Claim
import GoSem.ClaimJoined
import GoSem.ClaimMapViews
import Derived.JoinedTies
import Derived.KernelRfl
namespace Go.Proofs.Ytclfjnoedcimiaa
/- THE CELL 'sum', in the pinned program and in every row, IS THE sha256 OF THE DUMP (.gsa) THAT YtclfjnoedcimiaaProg.lean LOADS. Nothing in Lean hashes anything: it is a label: what it is worth is what the hold of that sum in a sandbox is worth. -/
noncomputable def Try.pinned : Pinned := { name := "ytclfjnoedcimiaa", sum := "acff760505577db5cad1bee0cd3a809c1cc15107748232fc763fe831c762b716", checked := Try.checked }
namespace Rows
def none {H : Type} : Left H := { results := [], args := [] }

/-- 'laws.FnCentersOf': WHATEVER THE INPUT: true; the input reads as it did. -/
def fnCentersOfSpec : ChangeSpec := { name := "fnCentersOf", fn := fun _ => fun
  | [d] => { results := [.lit (.bool true)], args := [d] }
  | _ => none }
def fnCentersOfRow : OpenClaim := { program := "ytclfjnoedcimiaa", sum := "acff760505577db5cad1bee0cd3a809c1cc15107748232fc763fe831c762b716", func := "loop.example/countedchances/laws.FnCentersOf", spec := "fnCentersOf", apart := false }
def FnCentersOfSaid : Prop := fnCentersOfRow.holds Try.pinned (OpenSpec.ofChange fnCentersOfSpec)

/-- ITS FALSE NEIGHBOUR: 'it returns false'. Refute it at one input. -/
def fnCentersOfWrong : ChangeSpec := { name := "fnCentersOf", fn := fun _ => fun
  | [d] => { results := [.lit (.bool false)], args := [d] }
  | _ => none }
def FnCentersOfWrongFalsely : Prop := fnCentersOfRow.holds Try.pinned (OpenSpec.ofChange fnCentersOfWrong)

/-- 'laws.FnJoinsOf': WHATEVER THE INPUT: true; the input reads as it did. -/
def fnJoinsOfSpec : ChangeSpec := { name := "fnJoinsOf", fn := fun _ => fun
  | [d] => { results := [.lit (.bool true)], args := [d] }
  | _ => none }
def fnJoinsOfRow : OpenClaim := { program := "ytclfjnoedcimiaa", sum := "acff760505577db5cad1bee0cd3a809c1cc15107748232fc763fe831c762b716", func := "loop.example/countedchances/laws.FnJoinsOf", spec := "fnJoinsOf", unfollowed := true, recurses := true, apart := false }
def FnJoinsOfSaid : Prop := fnJoinsOfRow.holds Try.pinned (OpenSpec.ofChange fnJoinsOfSpec)

/-- ITS FALSE NEIGHBOUR: 'it returns false'. Refute it at one input. -/
def fnJoinsOfWrong : ChangeSpec := { name := "fnJoinsOf", fn := fun _ => fun
  | [d] => { results := [.lit (.bool false)], args := [d] }
  | _ => none }
def FnJoinsOfWrongFalsely : Prop := fnJoinsOfRow.holds Try.pinned (OpenSpec.ofChange fnJoinsOfWrong)

/-- 'laws.FnFarJoins': WHATEVER THE INPUT: true; the input reads as it did. -/
def fnFarJoinsSpec : ChangeSpec := { name := "fnFarJoins", fn := fun _ => fun
  | [d] => { results := [.lit (.bool true)], args := [d] }
  | _ => none }
def fnFarJoinsRow : OpenClaim := { program := "ytclfjnoedcimiaa", sum := "acff760505577db5cad1bee0cd3a809c1cc15107748232fc763fe831c762b716", func := "loop.example/countedchances/laws.FnFarJoins", spec := "fnFarJoins", unfollowed := true, recurses := true, apart := false }
def FnFarJoinsSaid : Prop := fnFarJoinsRow.holds Try.pinned (OpenSpec.ofChange fnFarJoinsSpec)

/-- ITS FALSE NEIGHBOUR: 'it returns false'. Refute it at one input. -/
def fnFarJoinsWrong : ChangeSpec := { name := "fnFarJoins", fn := fun _ => fun
  | [d] => { results := [.lit (.bool false)], args := [d] }
  | _ => none }
def FnFarJoinsWrongFalsely : Prop := fnFarJoinsRow.holds Try.pinned (OpenSpec.ofChange fnFarJoinsWrong)

/-- 'laws.FnExactJoinsOf': WHATEVER THE INPUT: true; the input reads as it did. -/
def fnExactJoinsOfSpec : ChangeSpec := { name := "fnExactJoinsOf", fn := fun _ => fun
  | [d] => { results := [.lit (.bool true)], args := [d] }
  | _ => none }
def fnExactJoinsOfRow : OpenClaim := { program := "ytclfjnoedcimiaa", sum := "acff760505577db5cad1bee0cd3a809c1cc15107748232fc763fe831c762b716", func := "loop.example/countedchances/laws.FnExactJoinsOf", spec := "fnExactJoinsOf", unfollowed := true, recurses := true, apart := false }
def FnExactJoinsOfSaid : Prop := fnExactJoinsOfRow.holds Try.pinned (OpenSpec.ofChange fnExactJoinsOfSpec)

/-- ITS FALSE NEIGHBOUR: 'it returns false'. Refute it at one input. -/
def fnExactJoinsOfWrong : ChangeSpec := { name := "fnExactJoinsOf", fn := fun _ => fun
  | [d] => { results := [.lit (.bool false)], args := [d] }
  | _ => none }
def FnExactJoinsOfWrongFalsely : Prop := fnExactJoinsOfRow.holds Try.pinned (OpenSpec.ofChange fnExactJoinsOfWrong)

/-- 'laws.FnExactStepsByJoins': WHATEVER THE INPUT: true; the input reads as it did. -/
def fnExactStepsByJoinsSpec : ChangeSpec := { name := "fnExactStepsByJoins", fn := fun _ => fun
  | [d] => { results := [.lit (.bool true)], args := [d] }
  | _ => none }
def fnExactStepsByJoinsRow : OpenClaim := { program := "ytclfjnoedcimiaa", sum := "acff760505577db5cad1bee0cd3a809c1cc15107748232fc763fe831c762b716", func := "loop.example/countedchances/laws.FnExactStepsByJoins", spec := "fnExactStepsByJoins", unfollowed := true, recurses := true, apart := false }
def FnExactStepsByJoinsSaid : Prop := fnExactStepsByJoinsRow.holds Try.pinned (OpenSpec.ofChange fnExactStepsByJoinsSpec)

/-- ITS FALSE NEIGHBOUR: 'it returns false'. Refute it at one input. -/
def fnExactStepsByJoinsWrong : ChangeSpec := { name := "fnExactStepsByJoins", fn := fun _ => fun
  | [d] => { results := [.lit (.bool false)], args := [d] }
  | _ => none }
def FnExactStepsByJoinsWrongFalsely : Prop := fnExactStepsByJoinsRow.holds Try.pinned (OpenSpec.ofChange fnExactStepsByJoinsWrong)

/-- 'laws.FnExactFarJoins': WHATEVER THE INPUT: true; the input reads as it did. -/
def fnExactFarJoinsSpec : ChangeSpec := { name := "fnExactFarJoins", fn := fun _ => fun
  | [d] => { results := [.lit (.bool true)], args := [d] }
  | _ => none }
def fnExactFarJoinsRow : OpenClaim := { program := "ytclfjnoedcimiaa", sum := "acff760505577db5cad1bee0cd3a809c1cc15107748232fc763fe831c762b716", func := "loop.example/countedchances/laws.FnExactFarJoins", spec := "fnExactFarJoins", unfollowed := true, recurses := true, apart := false }
def FnExactFarJoinsSaid : Prop := fnExactFarJoinsRow.holds Try.pinned (OpenSpec.ofChange fnExactFarJoinsSpec)

/-- ITS FALSE NEIGHBOUR: 'it returns false'. Refute it at one input. -/
def fnExactFarJoinsWrong : ChangeSpec := { name := "fnExactFarJoins", fn := fun _ => fun
  | [d] => { results := [.lit (.bool false)], args := [d] }
  | _ => none }
def FnExactFarJoinsWrongFalsely : Prop := fnExactFarJoinsRow.holds Try.pinned (OpenSpec.ofChange fnExactFarJoinsWrong)

/- THE SECOND FORM. 'bulk': how many values and letters a reading holds, each counted each time it is reached (what is shared counts as often as it is met; a slice's spare places count too). A statement '..UptoSaid' is the law's where the arguments, and the package variables that the reading takes, are together of bulk at most 1048576: NARROWER than '..Said'. Prove '..Said' where nothing that the law and all that it calls make is longer than what came in: it says more and counts as full. Else prove '..UptoSaid'. A law counts once. -/
mutual
def uptoBulk {H : Type} : DataW H → Nat
  | .lit (.string bytes) => bytes.length + 1
  | .lit _ => 1
  | .nil => 1
  | .ptr d => uptoBulk d + 1
  | .slice elems spare => uptoBulkAll elems + uptoBulkAll spare + 1
  | .agg parts => uptoBulkAll parts + 1
  | .iface _ d => uptoBulk d + 1
  | .map entries => uptoBulkEntries entries + 1
  | .held _ => 1
def uptoBulkAll {H : Type} : List (DataW H) → Nat
  | [] => 0
  | d :: r => uptoBulk d + uptoBulkAll r
def uptoBulkEntries {H : Type} : List (Lit × DataW H) → Nat
  | [] => 0
  | x :: r => uptoBulkEntry x + uptoBulkEntries r
def uptoBulkEntry {H : Type} : Lit × DataW H → Nat
  | (.string bytes, d) => bytes.length + uptoBulk d + 1
  | (_, d) => uptoBulk d + 1
 end
def uptoSmall : (H : Type) → List (DataW H) → Bool := fun _ ds => decide (uptoBulkAll ds ≤ 1048576)
def OpenSpec.upto (s : _root_.Go.ChangeSpec) : _root_.Go.OpenSpec := { _root_.Go.OpenSpec.ofChange s with cond := some uptoSmall }

/-- 'laws.FnCentersOf', WHERE WHAT IT READS IS OF BULK AT MOST 1048576: true; the input reads as it did. -/
def fnCentersOfUptoRow : OpenClaim := { program := "ytclfjnoedcimiaa", sum := "acff760505577db5cad1bee0cd3a809c1cc15107748232fc763fe831c762b716", func := "loop.example/countedchances/laws.FnCentersOf", spec := "fnCentersOf", apart := false, narrowed := true }
def FnCentersOfUptoSaid : Prop := fnCentersOfUptoRow.holds Try.pinned (OpenSpec.upto fnCentersOfSpec)

/-- 'laws.FnJoinsOf', WHERE WHAT IT READS IS OF BULK AT MOST 1048576: true; the input reads as it did. -/
def fnJoinsOfUptoRow : OpenClaim := { program := "ytclfjnoedcimiaa", sum := "acff760505577db5cad1bee0cd3a809c1cc15107748232fc763fe831c762b716", func := "loop.example/countedchances/laws.FnJoinsOf", spec := "fnJoinsOf", unfollowed := true, recurses := true, apart := false, narrowed := true }
def FnJoinsOfUptoSaid : Prop := fnJoinsOfUptoRow.holds Try.pinned (OpenSpec.upto fnJoinsOfSpec)

/-- 'laws.FnFarJoins', WHERE WHAT IT READS IS OF BULK AT MOST 1048576: true; the input reads as it did. -/
def fnFarJoinsUptoRow : OpenClaim := { program := "ytclfjnoedcimiaa", sum := "acff760505577db5cad1bee0cd3a809c1cc15107748232fc763fe831c762b716", func := "loop.example/countedchances/laws.FnFarJoins", spec := "fnFarJoins", unfollowed := true, recurses := true, apart := false, narrowed := true }
def FnFarJoinsUptoSaid : Prop := fnFarJoinsUptoRow.holds Try.pinned (OpenSpec.upto fnFarJoinsSpec)

/-- 'laws.FnExactJoinsOf', WHERE WHAT IT READS IS OF BULK AT MOST 1048576: true; the input reads as it did. -/
def fnExactJoinsOfUptoRow : OpenClaim := { program := "ytclfjnoedcimiaa", sum := "acff760505577db5cad1bee0cd3a809c1cc15107748232fc763fe831c762b716", func := "loop.example/countedchances/laws.FnExactJoinsOf", spec := "fnExactJoinsOf", unfollowed := true, recurses := true, apart := false, narrowed := true }
def FnExactJoinsOfUptoSaid : Prop := fnExactJoinsOfUptoRow.holds Try.pinned (OpenSpec.upto fnExactJoinsOfSpec)

/-- 'laws.FnExactStepsByJoins', WHERE WHAT IT READS IS OF BULK AT MOST 1048576: true; the input reads as it did. -/
def fnExactStepsByJoinsUptoRow : OpenClaim := { program := "ytclfjnoedcimiaa", sum := "acff760505577db5cad1bee0cd3a809c1cc15107748232fc763fe831c762b716", func := "loop.example/countedchances/laws.FnExactStepsByJoins", spec := "fnExactStepsByJoins", unfollowed := true, recurses := true, apart := false, narrowed := true }
def FnExactStepsByJoinsUptoSaid : Prop := fnExactStepsByJoinsUptoRow.holds Try.pinned (OpenSpec.upto fnExactStepsByJoinsSpec)

/-- 'laws.FnExactFarJoins', WHERE WHAT IT READS IS OF BULK AT MOST 1048576: true; the input reads as it did. -/
def fnExactFarJoinsUptoRow : OpenClaim := { program := "ytclfjnoedcimiaa", sum := "acff760505577db5cad1bee0cd3a809c1cc15107748232fc763fe831c762b716", func := "loop.example/countedchances/laws.FnExactFarJoins", spec := "fnExactFarJoins", unfollowed := true, recurses := true, apart := false, narrowed := true }
def FnExactFarJoinsUptoSaid : Prop := fnExactFarJoinsUptoRow.holds Try.pinned (OpenSpec.upto fnExactFarJoinsSpec)

end Rows
end Go.Proofs.Ytclfjnoedcimiaa
