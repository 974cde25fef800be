/- Numbers that do not fall: the row that rises is these. No program here. -/
import Derived.Test.YtcmbfkdhfdiamaaSame
import Derived.Test.YtcmbfkdhfdiamaaSmall2
namespace Go.Proofs.Ytcmbfkdhfdiamaa
open Go.RowKit

theorem wsum_ge {xs ws : List Int} (hv : Vl xs ws) {c : Int} {i : Nat} : ∀ n, i + n ≤ xs.length → (∀ j, j < n → c ≤ gi xs (i + j)) → c * dsum ws i n ≤ wsum xs ws i n
  | 0, _, _ => by simp [dsum, wsum]
  | n + 1, h, hc => by
    have ih := wsum_ge hv n (by omega) fun j hj => hc j (by omega)
    have hw := hv.w (i + n) (by omega)
    have h1 := Int.mul_le_mul_of_nonneg_right (hc n (by omega)) (show 0 ≤ gi ws (i + n) by omega)
    simp only [dsum, wsum, Int.mul_add]
    omega
theorem wsum_le {xs ws : List Int} (hv : Vl xs ws) {c : Int} {i : Nat} : ∀ n, i + n ≤ xs.length → (∀ j, j < n → gi xs (i + j) ≤ c) → wsum xs ws i n ≤ c * dsum ws i n
  | 0, _, _ => by simp [dsum, wsum]
  | n + 1, h, hc => by
    have ih := wsum_le hv n (by omega) fun j hj => hc j (by omega)
    have hw := hv.w (i + n) (by omega)
    have h1 := Int.mul_le_mul_of_nonneg_right (hc n (by omega)) (show 0 ≤ gi ws (i + n) by omega)
    simp only [dsum, wsum, Int.mul_add]
    omega
theorem mn_ge {xs ws : List Int} (hv : Vl xs ws) {c : Int} {i n : Nat} (hn : 1 ≤ n) (h : i + n ≤ xs.length) (hc : ∀ j, j < n → c ≤ gi xs (i + j)) : (c : Rat) ≤ mn xs ws i n := by
  have h1 := Rat.intCast_le_intCast.2 (wsum_ge hv n h hc)
  have e1 := mn_mul hv hn h
  have p1 := dsum_pos hv hn h
  rw [Rat.intCast_mul] at h1
  have k := nonneg_left (x := mn xs ws i n - (c : Rat)) p1 (by grind)
  grind
theorem mn_le {xs ws : List Int} (hv : Vl xs ws) {c : Int} {i n : Nat} (hn : 1 ≤ n) (h : i + n ≤ xs.length) (hc : ∀ j, j < n → gi xs (i + j) ≤ c) : mn xs ws i n ≤ (c : Rat) := by
  have h1 := Rat.intCast_le_intCast.2 (wsum_le hv n h hc)
  have e1 := mn_mul hv hn h
  have p1 := dsum_pos hv hn h
  rw [Rat.intCast_mul] at h1
  have k := nonneg_left (x := (c : Rat) - mn xs ws i n) p1 (by grind)
  grind
theorem clm_le {xs : List Int} {n : Nat} (h : Clm xs n) : ∀ d i, i + d < n → gi xs i ≤ gi xs (i + d)
  | 0, _, _ => Int.le_refl _
  | d + 1, i, hi => Int.le_trans (clm_le h d i (by omega)) (h (i + d) (by omega))
theorem best_clm {xs ws : List Int} (hv : Vl xs ws) (hc : Clm xs xs.length) {x : Nat} (hx : x < xs.length) : bestQ xs ws x = (gi xs x : Rat) := by
  have up : bestQ xs ws x ≤ (gi xs x : Rat) := by
    refine mxQ_le _ fun i hi => ?_
    rw [gq_tab (by omega)]
    have h4 := mnQ_le (L := tab (fun j => mq xs ws i (x + j)) (xs.length - x)) (xs.length - x - 1) 0 (by omega)
    rw [gq_tab (by omega), mq_mn] at h4
    have h5 := mn_le hv (i := i) (n := x + 0 + 1 - i) (c := gi xs x) (by omega) (by omega) fun j hj => by
      have := clm_le hc (x - (i + j)) (i + j) (by omega)
      rwa [show i + j + (x - (i + j)) = x from by omega] at this
    unfold lowQ
    grind
  have lo : (gi xs x : Rat) ≤ lowQ xs ws x x := by
    refine le_mnQ _ fun j hj => ?_
    rw [gq_tab (by omega), mq_mn]
    exact mn_ge hv (by omega) (by omega) fun t ht => clm_le hc t x (by omega)
  have g2 : gq (tab (lowQ xs ws x) (x + 1)) x ≤ bestQ xs ws x := le_mxQ _ _ (Nat.le_refl _)
  rw [gq_tab (by omega)] at g2
  grind

end Go.Proofs.Ytcmbfkdhfdiamaa
