/- What a call that only makes memory leaves as it was: for regions that draw their order. -/
import Derived.Test.YtpcnjkgoehepaaaBase
import Derived.Deep.RegionHeld3
namespace Go.Proofs.Ytpcnjkgoehepaaa
open Go.RowKit

theorem keepB {w W w1 : World} (hb : Below W.heap.size W w1) (h : Below w.heap.size w W) : Below w.heap.size w w1 := h.trans (hb.mono h.size)
theorem keepC {W w1 : World} {b o : Nat} {v : Value} (hb : Below W.heap.size W w1) (h : W.cell? ⟨b, o, none⟩ = some v) : w1.cell? ⟨b, o, none⟩ = some v :=
  (hb.cell (p := ⟨b, o, none⟩) (World.block_lt_of_cell? W ⟨b, o, none⟩ h)).trans h
theorem keepF {W w1 : World} {b o : Nat} (hb : Below W.heap.size W w1) (hlt : b < W.heap.size) (h : W.frozen? ⟨b, o, none⟩ = false) : w1.frozen? ⟨b, o, none⟩ = false :=
  (hb.frozen (p := ⟨b, o, none⟩) hlt).trans h
theorem keepS0 {w W w1 : World} (hb : Below W.heap.size W w1) (h : Below w.heap.size w W) : Below w.heap.size w w1 := keepB hb h
theorem keepS1 {w W w1 : World} {b1 o1 : Nat} {v1 : Value} (hb : Below W.heap.size W w1) (h : W.cell? ⟨b1, o1, none⟩ = some v1 ∧ Below w.heap.size w W) :
    w1.cell? ⟨b1, o1, none⟩ = some v1 ∧ Below w.heap.size w w1 := ⟨keepC hb h.1, keepB hb h.2⟩
theorem keepS2 {w W w1 : World} {b1 o1 b2 o2 : Nat} {v1 v2 : Value} (hb : Below W.heap.size W w1) (h : W.cell? ⟨b1, o1, none⟩ = some v1 ∧ W.cell? ⟨b2, o2, none⟩ = some v2 ∧ Below w.heap.size w W) :
    w1.cell? ⟨b1, o1, none⟩ = some v1 ∧ w1.cell? ⟨b2, o2, none⟩ = some v2 ∧ Below w.heap.size w w1 := ⟨keepC hb h.1, keepC hb h.2.1, keepB hb h.2.2⟩
theorem keepS3 {w W w1 : World} {b1 o1 b2 o2 b3 o3 : Nat} {v1 v2 v3 : Value} (hb : Below W.heap.size W w1) (h : W.cell? ⟨b1, o1, none⟩ = some v1 ∧ W.cell? ⟨b2, o2, none⟩ = some v2 ∧ W.cell? ⟨b3, o3, none⟩ = some v3 ∧ Below w.heap.size w W) :
    w1.cell? ⟨b1, o1, none⟩ = some v1 ∧ w1.cell? ⟨b2, o2, none⟩ = some v2 ∧ w1.cell? ⟨b3, o3, none⟩ = some v3 ∧ Below w.heap.size w w1 := ⟨keepC hb h.1, keepS2 hb h.2⟩
theorem keepS4 {w W w1 : World} {b1 o1 b2 o2 b3 o3 b4 o4 : Nat} {v1 v2 v3 v4 : Value} (hb : Below W.heap.size W w1)
    (h : W.cell? ⟨b1, o1, none⟩ = some v1 ∧ W.cell? ⟨b2, o2, none⟩ = some v2 ∧ W.cell? ⟨b3, o3, none⟩ = some v3 ∧ W.cell? ⟨b4, o4, none⟩ = some v4 ∧ Below w.heap.size w W) :
    w1.cell? ⟨b1, o1, none⟩ = some v1 ∧ w1.cell? ⟨b2, o2, none⟩ = some v2 ∧ w1.cell? ⟨b3, o3, none⟩ = some v3 ∧ w1.cell? ⟨b4, o4, none⟩ = some v4 ∧ Below w.heap.size w w1 := ⟨keepC hb h.1, keepS3 hb h.2⟩
theorem below_alloc {W : World} {o : Obj} : Below W.heap.size W (W.alloc o) := (Below.refl _ _).alloc (Nat.le_refl _) _
theorem below_drew {W : World} : Below W.heap.size W W.drew := (Below.refl _ _).drew
theorem below_set {W W0 : World} {a : Addr} {v : Value} (h : Below W0.heap.size W0 W) (ha : W0.heap.size ≤ a.block) : Below W0.heap.size W0 (W.setCell a v) := h.setCell ha v

theorem OwnI.cap {w : World} {base g c m n : Nat} {xs : List Int} (h : OwnI w base (.slice (some ⟨g, 0, none⟩) m c) n xs) : n ≤ c := by
  rcases h.2 with ⟨h0, _⟩ | ⟨g', cap', cur, hv, hb, hg, hnc, _⟩
  · cases h0
  · cases hv; exact hnc

end Go.Proofs.Ytpcnjkgoehepaaa
