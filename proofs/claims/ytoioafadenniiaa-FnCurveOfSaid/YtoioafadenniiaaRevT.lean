/- Rows turned round, and fewer numbers. -/
import Derived.Test.YtoioafadenniiaaSmall3
namespace Go.Proofs.Ytoioafadenniiaa
open Go.RowKit

def revT (xs : List Int) : List Int := tabI (fun j => gi xs (xs.length - 1 - j)) xs.length
theorem revT_length (xs : List Int) : (revT xs).length = xs.length := tabI_length _ _
theorem gi_revT {xs : List Int} {i : Nat} (h : i < xs.length) : gi (revT xs) i = gi xs (xs.length - 1 - i) := gi_tabI h
theorem gi_takeI {xs : List Int} {n i : Nat} (h : i < n) (hn : n ≤ xs.length) : gi (xs.take n) i = gi xs i := by
  rw [gi_eq (by simp; omega), gi_eq (by omega), List.getElem_take]

theorem RowI.take {w : World} {b o : Nat} {xs : List Int} (h : RowI w b o xs) (n : Nat) : RowI w b o (xs.take n) :=
  ⟨h.blk, fun k hk => by
    have hk' : k < n ∧ k < xs.length := by simp at hk; omega
    rw [h.cell k hk'.2, gi_eq hk, gi_eq hk'.2, List.getElem_take]⟩

end Go.Proofs.Ytoioafadenniiaa
