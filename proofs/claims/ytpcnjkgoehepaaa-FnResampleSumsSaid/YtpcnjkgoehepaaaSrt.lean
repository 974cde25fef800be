/- slices.Sort of an own row: the numbers by size. -/
import Derived.Test.YtpcnjkgoehepaaaShelf
import Derived.Test.YtpcnjkgoehepaaaAppS
import Derived.Test.YtpcnjkgoehepaaaTab
import Derived.Sort.OwnSortedInts
import Derived.Deep.AppendLies
namespace Go.Proofs.Ytpcnjkgoehepaaa
open Go.RowKit Go.Sort

theorem srt_merge (xs : List Int) : (xs.mergeSort fun x y => decide (x ≤ y)) = srt xs :=
  srt_eq (List.mergeSort_perm xs _) (by
    have := List.pairwise_mergeSort (le := fun x y : Int => decide (x ≤ y)) (fun a b c h1 h2 => by simp at h1 h2 ⊢; omega) (fun a b => by simp; omega) xs
    exact this.imp fun h => by simpa using h)

theorem sort_own (base g cap : Nat) (xs : List Int) (w : World) (h : OwnI w base (.slice (some ⟨g, 0, none⟩) xs.length cap) xs.length xs) (hl : xs.length ≤ 1000000) :
    Calls Try.prog 35 #[.slice (some ⟨g, 0, none⟩) xs.length cap] w
      fun e w' => e = .returned (.tuple #[]) ∧ OwnI w' base (.slice (some ⟨g, 0, none⟩) xs.length cap) xs.length (srt xs) ∧ w.grownBy w' (some g) := by
  have h0 := h
  rcases h.2 with ⟨h1, _⟩ | ⟨g', cap', cur, hv, hb, hg, hnc, hcm, hcs, htake⟩
  · cases h1
  · cases hv
    rw [Nat.mul_one] at htake
    refine (sh_slices_Sort_int g 0 cap xs w (holds_of_blockI hg htake) (Array.getElem?_eq_some_iff.1 hg).1 (by omega)).mono ?_
    rintro e w' ⟨rfl, n, os, rfl⟩
    refine ⟨rfl, ?_, grownBy_sortedI _⟩
    have := ownsRow_sortedI (os := os) (n := n) (base := base) (ss := xs) (ts := xs.mergeSort fun x y => decide (x ≤ y)) (List.length_mergeSort xs) hb hg hnc hcm (by omega)
    rw [srt_merge] at this ⊢
    unfold OwnI
    exact this

end Go.Proofs.Ytpcnjkgoehepaaa
