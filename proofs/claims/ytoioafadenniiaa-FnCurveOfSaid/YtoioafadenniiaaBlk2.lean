/- What stores leave of a known block. No program here. -/
import Derived.Test.YtoioafadenniiaaBlk
namespace Go.Proofs.Ytoioafadenniiaa
open Go.RowKit

theorem Blk.two {w : World} {g : Nat} {e : TypeId} {x y : Value} (h : Blk w g e [x, y]) (u v : Value) : Blk ((w.setCell ⟨g, 0, none⟩ u).setCell ⟨g, 1, none⟩ v) g e [u, v] := (h.set 0 u).set 1 v
theorem Blk.made' {w : World} {g : Nat} {e : TypeId} {cs : List Value} (cur : Array Value) (hg : g = w.heap.size) (hc : cur.toList = cs) : Blk (w.alloc (.cells cur e)) g e cs := by
  subst hg hc
  exact Blk.made _ _ _
theorem Blk.allocs {w : World} {g : Nat} {e : TypeId} {cs : List Value} (h : Blk w g e cs) (o : Obj) : Blk (w.alloc o) g e cs := h.below ((Below.refl _ _).alloc (Nat.le_refl _) o)
theorem Blk.drews {w : World} {g : Nat} {e : TypeId} {cs : List Value} (h : Blk w g e cs) : Blk w.drew g e cs := h.below below_drew
theorem Blk.others {w : World} {g : Nat} {e : TypeId} {cs : List Value} (h : Blk w g e cs) {a : Addr} {v : Value} (ha : a.block ≠ g) : Blk (w.setCell a v) g e cs := h.other v ha

end Go.Proofs.Ytoioafadenniiaa
