/- The least of the least sums of each number of pieces is that of at most so many pieces. -/
import Derived.Test.YtfbccnameppikaaQRow
import Derived.Test.YtfbccnameppikaaOwnF
import Derived.Test.YtfbccnameppikaaMisW
namespace Go.Proofs.Ytfbccnameppikaa
open Go.RowKit

theorem blk_pre {w : World} {g : Nat} {e : TypeId} {A B : List Value} (h : Blk w g e (A ++ B)) : Blk w g e A := by
  obtain ⟨cur, h1, h2⟩ := h
  refine ⟨cur, h1, ?_⟩
  have : List.take A.length (List.take (A ++ B).length cur.toList) = A := by rw [h2]; simp
  rwa [List.take_take, Nat.min_eq_left (by simp)] at this
theorem blk_tab {w : World} {g : Nat} {f : Nat → Rat} {n m : Nat} (h : Blk w g 27 (fc (tab f n))) (hm : m ≤ n) : Blk w g 27 (fc (tab f m)) := by
  obtain ⟨d, rfl⟩ : ∃ d, n = m + d := ⟨n - m, by omega⟩
  induction d with
  | zero => exact h
  | succ d ih =>
    rw [← Nat.add_assoc, tab_succ, ← fc_append] at h
    exact ih (blk_pre h) (by omega)
theorem ownF_cap {w : World} {base g c m n : Nat} {fs : List Rat} (h : OwnF w base (.slice (some ⟨g, 0, none⟩) m c) n fs) : n ≤ c := by
  rcases h.2 with ⟨h0, _⟩ | ⟨g', cap', cur, hv, hb, hg, hnc, _⟩
  · cases h0
  · cases hv; exact hnc

theorem mnQ_or (fs : List Rat) : ∀ k, ∃ j, j ≤ k ∧ mnQ fs k = gq fs j
  | 0 => ⟨0, Nat.le_refl _, rfl⟩
  | k + 1 => by
    obtain ⟨j, h1, h2⟩ := mnQ_or fs k
    simp only [mnQ]
    split
    · exact ⟨k + 1, Nat.le_refl _, rfl⟩
    · exact ⟨j, by omega, h2⟩
theorem mnQ_low (fs : List Rat) : ∀ k j, j ≤ k → mnQ fs k ≤ gq fs j
  | 0, j, h => by
    obtain rfl : j = 0 := by omega
    exact Rat.le_refl
  | k + 1, j, h => by
    simp only [mnQ]
    by_cases e : j = k + 1
    · subst e
      split
      · exact Rat.le_refl
      · rename_i h; grind
    · have := mnQ_low fs k j (by omega)
      split
      · rename_i h; grind
      · exact this

/-- The least sum of at most m pieces: the program's. -/
def atQ (c : List Int → Rat) (xs : List Int) (m : Nat) : Rat := mnQ (tab (fun p => lcN c xs p xs.length) m) (m - 1)
theorem atQ_least (c : List Int → Rat) {xs : List Int} {m : Nat} (h1 : 1 ≤ m) (hm : m ≤ xs.length) : Least c xs (fun n => n ≤ m) (atQ c xs m) := by
  have hex := fun j (hj : j + 1 ≤ xs.length) => by
    have := lcN_least c xs j xs.length hj (Nat.le_refl _)
    rwa [List.take_length] at this
  constructor
  · obtain ⟨j, h2, h3⟩ := mnQ_or (tab (fun p => lcN c xs p xs.length) m) (m - 1)
    rw [gq_tab (by omega)] at h3
    obtain ⟨L, l1, l2, l3⟩ := (hex j (by omega)).got
    exact ⟨L, l1, by omega, by rw [l3]; exact h3.symm⟩
  · intro L hL hl
    have hl1 : 1 ≤ L.length := by
      rcases Nat.eq_zero_or_pos L.length with e | e
      · have := hL.join
        rw [List.eq_nil_of_length_eq_zero e] at this
        rw [← this] at hm
        simp at hm
        omega
      · exact e
    have h2 := mnQ_low (tab (fun p => lcN c xs p xs.length) m) (m - 1) (L.length - 1) (by omega)
    rw [gq_tab (by omega)] at h2
    exact Rat.le_trans h2 ((hex (L.length - 1) (by omega)).low L hL (by omega))

end Go.Proofs.Ytfbccnameppikaa
