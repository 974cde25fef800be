/- What a generator's steps leave as it was: its reader and its rows. No walk here. -/
import Derived.Test.YtpcnjkgoehepaaaReader
import Derived.Test.YtpcnjkgoehepaaaKeep
import Derived.Deep.LoopGhost
import Derived.Deep.AppendLies
namespace Go.Proofs.Ytpcnjkgoehepaaa
open Go.RowKit

theorem OwnI.grown {w w' : World} {base n gr : Nat} {v : Value} {xs : List Int} (h : OwnI w base v n xs) (hb : w.grownBy w' (some gr)) (hne : v.ownBlock ≠ some gr) : OwnI w' base v n xs :=
  World.ownsRow.kept h (row := some gr) hb (.inr hne)
theorem grown_trans {w w1 w2 : World} {r : Option Nat} (h : w.grownBy w1 r) (h' : w1.grownBy w2 r) : w.grownBy w2 r :=
  ⟨h'.os.trans h.os, h'.tape.trans h.tape, h'.output.trans h.output, Nat.le_trans h.size h'.size, fun k hk hne => (h'.block k (Nat.lt_of_lt_of_le hk h.size) hne).trans (h.block k hk hne)⟩
theorem grown_of_below {w w' : World} (r : Option Nat) (h : Below w.heap.size w w') : w.grownBy w' r := ⟨h.os, h.tape, h.output, h.size, fun k hk _ => h.block k hk⟩
theorem Rdr.keep {w w' : World} {g n c b : Nat} {ad : Option Addr} {p : Int} (h : Rdr w g ad n c p) (hb : w.grownBy w' (some b)) (hne : g < b) : Rdr w' g ad n c p := by
  refine ⟨h.blk.grown hb (by omega), ?_, h.len, h.p0⟩
  rcases h.code with h1 | ⟨bb, o, h1, h2, h3⟩
  · exact .inl h1
  · refine .inr ⟨bb, o, h1, h2, fun k hk => ?_⟩
    obtain ⟨v, v0, v1, hv⟩ := h3 k hk
    refine ⟨v, v0, v1, ?_⟩
    rw [← hv]
    exact World.cell?_of_block (hb.block bb (World.block_lt_of_cell? w _ hv) (fun e => by have := Option.some.inj e; omega))

theorem grown_far {w w1 w2 : World} {r : Option Nat} {b : Nat} (h : w.grownBy w1 r) (h' : w1.grownBy w2 (some b)) (hb : w.heap.size ≤ b) : w.grownBy w2 r :=
  ⟨h'.os.trans h.os, h'.tape.trans h.tape, h'.output.trans h.output, Nat.le_trans h.size h'.size, fun k hk hne => (h'.block k (Nat.lt_of_lt_of_le hk h.size) (fun e => by have := Option.some.inj e; omega)).trans (h.block k hk hne)⟩
theorem row_made (w : World) (xs : List Int) : RowI (w.alloc (.cells (ic xs).toArray 3)) w.heap.size 0 xs := Blk.row (by have := Blk.made w (ic xs).toArray 3; simpa using this)

/-- Elements more for a row of the call's own. -/
theorem app_row {w wc w4 : World} {g4 g n c : Nat} {p : Int} {ad : Option Addr} {o : Obj} (hR : Rdr wc g ad n c p) (hG : w.grownBy wc (some g)) (hg : g < w.heap.size) (o2 : (wc.alloc o).grownBy w4 (some g4)) (hg4 : w.heap.size ≤ g4) :
    Rdr w4 g ad n c p ∧ w.grownBy w4 (some g) :=
  ⟨(hR.below below_alloc).keep o2 (by omega), grown_far (grown_trans hG (grown_of_below _ below_alloc)) o2 hg4⟩

end Go.Proofs.Ytpcnjkgoehepaaa
