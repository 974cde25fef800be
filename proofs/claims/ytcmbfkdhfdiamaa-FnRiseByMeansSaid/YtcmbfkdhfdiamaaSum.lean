/- The sum of the blocks' means by the weights. No program here. -/
import Derived.Test.YtcmbfkdhfdiamaaSame
namespace Go.Proofs.Ytcmbfkdhfdiamaa
open Go.RowKit

def sumQ (ws : List Int) (F : Nat → Rat) : Nat → Rat
  | 0 => 0
  | k + 1 => sumQ ws F k + F k * (gi ws k : Rat)
theorem sum_block {ws : List Int} {F : Nat → Rat} {lo : Nat} {m : Rat} : ∀ n, (∀ j, j < n → F (lo + j) = m) → sumQ ws F (lo + n) = sumQ ws F lo + m * (dsum ws lo n : Rat)
  | 0, _ => by simp [dsum]; grind
  | n + 1, h => by
    have ih := sum_block (ws := ws) n fun j hj => h j (by omega)
    have h1 := h n (by omega)
    rw [show lo + (n + 1) = lo + n + 1 from rfl, sumQ, ih, h1]
    simp only [dsum, Rat.intCast_add]
    grind
theorem sum_ends {xs ws : List Int} {R : List Nat} (hv : Vl xs ws) (hd : Dec (xs.length - 1) R) (h0 : bd (xs.length :: R) 0 = 0) : ∀ i, i ≤ R.length →
    sumQ ws (bmq xs ws R) (bd (xs.length :: R) i) = (wsum xs ws 0 (bd (xs.length :: R) i) : Rat) ∧
    ∀ j, j ≤ bd (xs.length :: R) i → ∃ E : Int, 1 ≤ E ∧ E ≤ 40 ∧ Dv (sumQ ws (bmq xs ws R) j) E
  | 0, _ => by
    rw [h0]
    refine ⟨rfl, fun j hj => ?_⟩
    obtain rfl : j = 0 := by omega
    exact ⟨1, by omega, by omega, Dv.zero 1⟩
  | i + 1, hi => by
    obtain ⟨e1, ih⟩ := sum_ends hv hd h0 i (by omega)
    have hn8 := hv.n8
    have hn0 := hv.n0
    have hlh := bd_up hd (by omega) i (by omega)
    have hhb := bd_bound hd (i + 1) hi
    have hF : ∀ j, j < bd (xs.length :: R) (i + 1) - bd (xs.length :: R) i → bmq xs ws R (bd (xs.length :: R) i + j) = mq xs ws (bd (xs.length :: R) i) (bd (xs.length :: R) (i + 1) - 1) :=
      fun j hj => bmq_eq hd (by omega) (by omega) (by omega)
    generalize bd (xs.length :: R) i = lo at *
    generalize bd (xs.length :: R) (i + 1) = hi' at *
    obtain ⟨k, rfl⟩ : ∃ k, hi' = lo + k := ⟨hi' - lo, by omega⟩
    rw [show lo + k - lo = k from by omega, mq_mn, show lo + k - 1 + 1 - lo = k from by omega] at hF
    have hm := mn_mul hv (i := lo) (n := k) (by omega) (by omega)
    have hb := dsum_bd hv lo k (by omega)
    refine ⟨?_, fun j hj => ?_⟩
    · rw [sum_block k hF, e1, hm, wsum_add, Nat.zero_add, Rat.intCast_add]
    · by_cases hj1 : j ≤ lo
      · exact ih j hj1
      · obtain ⟨n, rfl⟩ : ∃ n, j = lo + n := ⟨j - lo, by omega⟩
        refine ⟨dsum ws lo k, by omega, by omega, wsum xs ws 0 lo * dsum ws lo k + wsum xs ws lo k * dsum ws lo n, ?_⟩
        rw [sum_block n fun j hj => hF j (by omega), e1]
        simp only [Rat.intCast_add, Rat.intCast_mul, ← hm]
        grind

end Go.Proofs.Ytcmbfkdhfdiamaa
