/-
  No cell of these rows narrows 'for every input' (looked for: loops, veiled, ifaces, maps, wideKeys, modest, calm, conditions, laid).
  DERIVED. THE GIVEN ROWS OF THIS SEAT. 3 by the template 'for every input the law returns true; each argument reads behind the call as it read before'; 0 by the template 'total and deterministic' (their statements: YtpcnjkgoehepaaaTotals.lean).
  GIVEN WITH THE SEED: the statements are not yours to turn. If you find one false, say at which input.
  Laid BY PROGRAM, IN A SANDBOX (cutbox-rows.mjs): the forced cells as the released guide's own fill.sh prints them over the translation 1132e3ab3dd34014… (all of the seat's roots in one cut). By AI agents, Wed Nov 11 2026. No macro, syntax, notation, axiom, sorry.
-/
import Derived.Test.YtpcnjkgoehepaaaChecked
import GoSem.Claim
import GoSem.ClaimJoined
import GoSem.ClaimMapViews
import Derived.JoinedTies
import Derived.KernelRfl
namespace Go.Proofs.Ytpcnjkgoehepaaa
/- THE CELL 'sum', in the pinned program and in every row, IS THE sha256 OF THE DUMP (.gsa) THAT YtpcnjkgoehepaaaProg.lean LOADS. Nothing in Lean hashes anything: it is a label: what it is worth is what the hold of that sum in a sandbox is worth. -/
noncomputable def Try.pinned : Pinned := { name := "ytpcnjkgoehepaaa", sum := "1132e3ab3dd340146f1bef129f520ec087644bd0f54aee56e91e1f8644dfdef0", checked := Try.checked }
namespace Rows
def none {H : Type} : Left H := { results := [], args := [] }

/-- 'laws.FnTablesWith': WHATEVER THE INPUT: true; the input reads as it did. -/
def fnTablesWithSpec : ChangeSpec := { name := "fnTablesWith", fn := fun _ => fun
  | [d] => { results := [.lit (.bool true)], args := [d] }
  | _ => none }
def fnTablesWithRow : OpenClaim := { program := "ytpcnjkgoehepaaa", sum := "1132e3ab3dd340146f1bef129f520ec087644bd0f54aee56e91e1f8644dfdef0", func := "loop.example/countedchances/laws.FnTablesWith", spec := "fnTablesWith", unfollowed := true, recurses := true, apart := false }
def FnTablesWithSaid : Prop := fnTablesWithRow.holds Try.pinned (OpenSpec.ofChange fnTablesWithSpec)

/-- ITS FALSE NEIGHBOUR: 'it returns false'. Refute it at one input. -/
def fnTablesWithWrong : ChangeSpec := { name := "fnTablesWith", fn := fun _ => fun
  | [d] => { results := [.lit (.bool false)], args := [d] }
  | _ => none }
def FnTablesWithWrongFalsely : Prop := fnTablesWithRow.holds Try.pinned (OpenSpec.ofChange fnTablesWithWrong)

/-- 'laws.FnExactResampleSums': WHATEVER THE INPUT: true; the input reads as it did. -/
def fnExactResampleSumsSpec : ChangeSpec := { name := "fnExactResampleSums", fn := fun _ => fun
  | [d] => { results := [.lit (.bool true)], args := [d] }
  | _ => none }
def fnExactResampleSumsRow : OpenClaim := { program := "ytpcnjkgoehepaaa", sum := "1132e3ab3dd340146f1bef129f520ec087644bd0f54aee56e91e1f8644dfdef0", func := "loop.example/countedchances/laws.FnExactResampleSums", spec := "fnExactResampleSums", unfollowed := true, recurses := true, apart := false }
def FnExactResampleSumsSaid : Prop := fnExactResampleSumsRow.holds Try.pinned (OpenSpec.ofChange fnExactResampleSumsSpec)

/-- ITS FALSE NEIGHBOUR: 'it returns false'. Refute it at one input. -/
def fnExactResampleSumsWrong : ChangeSpec := { name := "fnExactResampleSums", fn := fun _ => fun
  | [d] => { results := [.lit (.bool false)], args := [d] }
  | _ => none }
def FnExactResampleSumsWrongFalsely : Prop := fnExactResampleSumsRow.holds Try.pinned (OpenSpec.ofChange fnExactResampleSumsWrong)

/-- 'laws.FnResampleSums': WHATEVER THE INPUT: true; the input reads as it did. -/
def fnResampleSumsSpec : ChangeSpec := { name := "fnResampleSums", fn := fun _ => fun
  | [d] => { results := [.lit (.bool true)], args := [d] }
  | _ => none }
def fnResampleSumsRow : OpenClaim := { program := "ytpcnjkgoehepaaa", sum := "1132e3ab3dd340146f1bef129f520ec087644bd0f54aee56e91e1f8644dfdef0", func := "loop.example/countedchances/laws.FnResampleSums", spec := "fnResampleSums", unfollowed := true, recurses := true, apart := false }
def FnResampleSumsSaid : Prop := fnResampleSumsRow.holds Try.pinned (OpenSpec.ofChange fnResampleSumsSpec)

/-- ITS FALSE NEIGHBOUR: 'it returns false'. Refute it at one input. -/
def fnResampleSumsWrong : ChangeSpec := { name := "fnResampleSums", fn := fun _ => fun
  | [d] => { results := [.lit (.bool false)], args := [d] }
  | _ => none }
def FnResampleSumsWrongFalsely : Prop := fnResampleSumsRow.holds Try.pinned (OpenSpec.ofChange fnResampleSumsWrong)

/- THE SECOND FORM. 'bulk': how many values and letters a reading holds, each counted each time it is reached (what is shared counts as often as it is met; a slice's spare places count too). A statement '..UptoSaid' is the law's where the arguments, and the package variables that the reading takes, are together of bulk at most 1048576: NARROWER than '..Said'. Prove '..Said' where nothing that the law and all that it calls make is longer than what came in: it says more and counts as full. Else prove '..UptoSaid'. A law counts once. -/
mutual
def uptoBulk {H : Type} : DataW H → Nat
  | .lit (.string bytes) => bytes.length + 1
  | .lit _ => 1
  | .nil => 1
  | .ptr d => uptoBulk d + 1
  | .slice elems spare => uptoBulkAll elems + uptoBulkAll spare + 1
  | .agg parts => uptoBulkAll parts + 1
  | .iface _ d => uptoBulk d + 1
  | .map entries => uptoBulkEntries entries + 1
  | .held _ => 1
def uptoBulkAll {H : Type} : List (DataW H) → Nat
  | [] => 0
  | d :: r => uptoBulk d + uptoBulkAll r
def uptoBulkEntries {H : Type} : List (Lit × DataW H) → Nat
  | [] => 0
  | x :: r => uptoBulkEntry x + uptoBulkEntries r
def uptoBulkEntry {H : Type} : Lit × DataW H → Nat
  | (.string bytes, d) => bytes.length + uptoBulk d + 1
  | (_, d) => uptoBulk d + 1
 end
def uptoSmall : (H : Type) → List (DataW H) → Bool := fun _ ds => decide (uptoBulkAll ds ≤ 1048576)
def OpenSpec.upto (s : _root_.Go.ChangeSpec) : _root_.Go.OpenSpec := { _root_.Go.OpenSpec.ofChange s with cond := some uptoSmall }

/-- 'laws.FnTablesWith', WHERE WHAT IT READS IS OF BULK AT MOST 1048576: true; the input reads as it did. -/
def fnTablesWithUptoRow : OpenClaim := { program := "ytpcnjkgoehepaaa", sum := "1132e3ab3dd340146f1bef129f520ec087644bd0f54aee56e91e1f8644dfdef0", func := "loop.example/countedchances/laws.FnTablesWith", spec := "fnTablesWith", unfollowed := true, recurses := true, apart := false, narrowed := true }
def FnTablesWithUptoSaid : Prop := fnTablesWithUptoRow.holds Try.pinned (OpenSpec.upto fnTablesWithSpec)

/-- 'laws.FnExactResampleSums', WHERE WHAT IT READS IS OF BULK AT MOST 1048576: true; the input reads as it did. -/
def fnExactResampleSumsUptoRow : OpenClaim := { program := "ytpcnjkgoehepaaa", sum := "1132e3ab3dd340146f1bef129f520ec087644bd0f54aee56e91e1f8644dfdef0", func := "loop.example/countedchances/laws.FnExactResampleSums", spec := "fnExactResampleSums", unfollowed := true, recurses := true, apart := false, narrowed := true }
def FnExactResampleSumsUptoSaid : Prop := fnExactResampleSumsUptoRow.holds Try.pinned (OpenSpec.upto fnExactResampleSumsSpec)

/-- 'laws.FnResampleSums', WHERE WHAT IT READS IS OF BULK AT MOST 1048576: true; the input reads as it did. -/
def fnResampleSumsUptoRow : OpenClaim := { program := "ytpcnjkgoehepaaa", sum := "1132e3ab3dd340146f1bef129f520ec087644bd0f54aee56e91e1f8644dfdef0", func := "loop.example/countedchances/laws.FnResampleSums", spec := "fnResampleSums", unfollowed := true, recurses := true, apart := false, narrowed := true }
def FnResampleSumsUptoSaid : Prop := fnResampleSumsUptoRow.holds Try.pinned (OpenSpec.upto fnResampleSumsSpec)

end Rows
end Go.Proofs.Ytpcnjkgoehepaaa
