/- The least values from the last place on; what rounds leave as it was. No walk here. -/
import Derived.Test.YtjkadlmlkcanpaaBwd
import Derived.Test.YtjkadlmlkcanpaaRoundTail
namespace Go.Proofs.Ytjkadlmlkcanpaa
open Go.RowKit Go.Shelf

/-- The least value so far, from the last place on. -/
def bkM (val : Int → Nat → Int) (xs : List Int) : Nat → Int
  | 0 => 1000
  | k + 1 => min (bkM val xs k) (val (gi xs (ordAt xs (xs.length - 1 - k))) (xs.length - 1 - k))

theorem ic_tab {cs : List Value} {f : Nat → Int} {n : Nat} (h1 : cs.length = n) (h2 : ∀ j, j < n → cs[j]? = some (.int .i64 (f j))) : cs = ic (tabI f n) := by
  apply List.ext_getElem?
  intro j
  by_cases hj : j < n
  · rw [h2 j hj, get_ic (by rw [tabI_length]; exact hj), gi_tabI hj]
  · rw [List.getElem?_eq_none (by omega), List.getElem?_eq_none (by rw [ic_length, tabI_length]; omega)]

theorem drewN_heap (W : World) : ∀ k, (W.drewN k).heap = W.heap
  | 0 => rfl
  | k + 1 => drewN_heap W k
theorem keepsOthers_drewN (W : World) : ∀ k, KeepsOthers W (W.drewN k)
  | 0 => KeepsOthers.refl _
  | k + 1 => ⟨(keepsOthers_drewN W k).size, (keepsOthers_drewN W k).same⟩

theorem blk_kept {W W' : World} {g : Nat} {e : TypeId} {cs : List Value} {row : Option Nat} (h : Blk W g e cs) (hg : W.grownBy W' row) (hr : ∀ r, row = some r → ∃ o : Obj, W.heap[r]? = some o ∧ o.isCells = false) : Blk W' g e cs := by
  obtain ⟨cur, h1, h2⟩ := h
  exact ⟨cur, (grownBy_keeps_cells hg hr h1 rfl).trans h1, h2⟩

end Go.Proofs.Ytjkadlmlkcanpaa
