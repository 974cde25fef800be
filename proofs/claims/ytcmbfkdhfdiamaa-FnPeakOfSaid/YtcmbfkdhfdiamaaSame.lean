/- The greatest of the least means is the block's mean. No program here. -/
import Derived.Test.YtcmbfkdhfdiamaaMinMaxT
import Derived.Test.YtcmbfkdhfdiamaaMeansAll
import Derived.Test.YtcmbfkdhfdiamaaRbb
namespace Go.Proofs.Ytcmbfkdhfdiamaa
open Go.RowKit

theorem mnQ_le {L : List Rat} : ∀ m j, j ≤ m → mnQ L m ≤ gq L j
  | 0, j, h => by obtain rfl : j = 0 := by omega
                  exact Rat.le_refl
  | m + 1, j, h => by
    have ih := mnQ_le (L := L) m
    by_cases hj : j = m + 1
    · subst hj; simp only [mnQ]; split <;> grind
    · have := ih j (by omega); simp only [mnQ]; split <;> grind
theorem le_mnQ {L : List Rat} {c : Rat} : ∀ m, (∀ j, j ≤ m → c ≤ gq L j) → c ≤ mnQ L m
  | 0, h => h 0 (Nat.le_refl _)
  | m + 1, h => by
    have ih := le_mnQ (L := L) m fun j hj => h j (by omega)
    have h1 := h (m + 1) (Nat.le_refl _)
    simp only [mnQ]; split <;> grind
theorem le_mxQ {L : List Rat} : ∀ m j, j ≤ m → gq L j ≤ mxQ L m
  | 0, j, h => by obtain rfl : j = 0 := by omega
                  exact Rat.le_refl
  | m + 1, j, h => by
    have ih := le_mxQ (L := L) m
    by_cases hj : j = m + 1
    · subst hj; simp only [mxQ]; split <;> grind
    · have := ih j (by omega); simp only [mxQ]; split <;> grind
theorem mxQ_le {L : List Rat} {c : Rat} : ∀ m, (∀ j, j ≤ m → gq L j ≤ c) → mxQ L m ≤ c
  | 0, h => h 0 (Nat.le_refl _)
  | m + 1, h => by
    have ih := mxQ_le (L := L) m fun j hj => h j (by omega)
    have h1 := h (m + 1) (Nat.le_refl _)
    simp only [mxQ]; split <;> grind

theorem best_eq {xs ws : List Int} (hv : Vl xs ws) {x : Nat} (hx : x < xs.length) : bestQ xs ws x = bmq xs ws (poolR xs ws xs.length) x := by
  have hB := bks_pool hv
  have hd := poolR_dec1 (xs := xs) (ws := ws)
  obtain ⟨t, h1, h2, h3⟩ := bd_find (poolR_first hv.n0) (poolR xs ws xs.length).length x (by rw [bd_cons_eq]; exact hx)
  have e := bmq_eq (ws := ws) hd h1 h2 h3
  have hle := hB.le ((poolR xs ws xs.length).length - (t + 1)) (t + 1) (by omega)
  rw [e, mq_mn]
  have hfr := hB.from hv ((poolR xs ws xs.length).length - t) t (by omega) (by omega) (c := mn xs ws (bd (xs.length :: poolR xs ws xs.length) t) (bd (xs.length :: poolR xs ws xs.length) (t + 1) - bd (xs.length :: poolR xs ws xs.length) t)) Rat.le_refl
  have hup := hB.upto hv t h1 (c := mn xs ws (bd (xs.length :: poolR xs ws xs.length) t) (bd (xs.length :: poolR xs ws xs.length) (t + 1) - bd (xs.length :: poolR xs ws xs.length) t)) Rat.le_refl
  generalize bd (xs.length :: poolR xs ws xs.length) t = a at *
  generalize bd (xs.length :: poolR xs ws xs.length) (t + 1) = b at *
  rw [show b - 1 + 1 - a = b - a from by omega]
  generalize mn xs ws a (b - a) = c at *
  have lo : ∀ i, i ≤ x → lowQ xs ws x i ≤ c := by
    intro i hi
    have h4 := mnQ_le (L := tab (fun j => mq xs ws i (x + j)) (xs.length - x)) (xs.length - x - 1) (b - 1 - x) (by omega)
    rw [gq_tab (by omega), mq_mn, show x + (b - 1 - x) + 1 - i = b - i from by omega] at h4
    have h5 := hup i (b - i) (by omega) (by omega)
    have e1 := mn_mul hv (i := i) (n := b - i) (by omega) (by omega)
    have p1 := dsum_pos hv (i := i) (n := b - i) (by omega) (by omega)
    have k3 : 0 ≤ (c - mn xs ws i (b - i)) * (dsum ws i (b - i) : Rat) := by grind
    have k4 := nonneg_left p1 k3
    unfold lowQ
    grind
  have hi : c ≤ lowQ xs ws x a := by
    refine le_mnQ _ fun j hj => ?_
    rw [gq_tab (by omega), mq_mn]
    have h5 := hfr (x + j + 1 - a) (by omega) (by omega)
    have e1 := mn_mul hv (i := a) (n := x + j + 1 - a) (by omega) (by omega)
    have p1 := dsum_pos hv (i := a) (n := x + j + 1 - a) (by omega) (by omega)
    have k3 : 0 ≤ (mn xs ws a (x + j + 1 - a) - c) * (dsum ws a (x + j + 1 - a) : Rat) := by grind
    have k4 := nonneg_left p1 k3
    grind
  have g1 : bestQ xs ws x ≤ c := mxQ_le _ fun j hj => by rw [gq_tab (by omega)]; exact lo j hj
  have g2 : gq (tab (lowQ xs ws x) (x + 1)) a ≤ bestQ xs ws x := le_mxQ _ _ h2
  rw [gq_tab (by omega)] at g2
  grind
theorem rbm_eq {xs ws : List Int} (hv : Vl xs ws) : rbm xs ws = rbb xs ws := by
  unfold rbm rbb tab
  apply List.map_congr_left
  intro x hx
  exact best_eq hv (List.mem_range.1 hx)
theorem rbmV_eq (xs ws : List Int) : rbmV xs ws = rbbV xs ws := by
  unfold rbmV rbbV
  split
  · rename_i h; exact rbm_eq (vl_of h)
  · rfl

end Go.Proofs.Ytcmbfkdhfdiamaa
