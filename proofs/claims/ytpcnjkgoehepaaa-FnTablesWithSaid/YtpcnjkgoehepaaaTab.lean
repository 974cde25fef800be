/- Rows by a function. No program here. -/
import Derived.Test.YtpcnjkgoehepaaaToInt
namespace Go.Proofs.Ytpcnjkgoehepaaa
open Go.RowKit

/-- The list of a function's integers up to n. -/
def tabI (f : Nat → Int) (n : Nat) : List Int := (List.range n).map f
theorem tabI_length (f : Nat → Int) (n : Nat) : (tabI f n).length = n := by simp [tabI]
theorem tabI_succ (f : Nat → Int) (n : Nat) : tabI f (n + 1) = tabI f n ++ [f n] := by simp [tabI, List.range_succ]
theorem gi_tabI {f : Nat → Int} {n k : Nat} (h : k < n) : gi (tabI f n) k = f k := by unfold gi tabI; simp [h]
theorem eq_of_gi {xs ys : List Int} (hl : xs.length = ys.length) (h : ∀ k, k < xs.length → gi xs k = gi ys k) : xs = ys := by
  apply List.ext_getElem hl
  intro k h1 h2
  have := h k h1
  rwa [gi_eq h1, gi_eq h2] at this

theorem OwnI.empty (w : World) (base : Nat) (hb : base ≤ w.heap.size) (cur : Array Value) (hc : cur.size = 0) : OwnI (w.alloc (.cells cur 3)) base (.slice (some ⟨w.heap.size, 0, none⟩) 0 0) 0 [] :=
  World.ownsRow_made w cur 0 hb (by unfold maxLen; omega) (by omega)
theorem RowI.others' {w : World} {b o : Nat} {xs : List Int} {a : Addr} {v : Value} (h : RowI w b o xs) (ha : b ≠ a.block) : RowI (w.setCell a v) b o xs :=
  ⟨by rw [World.size_setCell]; exact h.blk, fun k hk => (World.cell?_of_block (a := ⟨b, o + k, none⟩) (Below.heap_setCell w a v b ha)).trans (h.cell k hk)⟩

end Go.Proofs.Ytpcnjkgoehepaaa
