/- No row that does not fall misses less than the row that rises, and it misses nothing just if the numbers do not fall. No program here. -/
import Derived.Test.YtcmbfkdhfdiamaaHullP
import Derived.Test.YtcmbfkdhfdiamaaClimb
import Derived.Test.YtcmbfkdhfdiamaaRiseMiss
import Derived.Test.YtcmbfkdhfdiamaaSmall3
namespace Go.Proofs.Ytcmbfkdhfdiamaa
open Go.RowKit

theorem sq_nonneg (x : Rat) : 0 ≤ x * x := by
  rcases (Rat.le_total : 0 ≤ x ∨ x ≤ 0) with h | h
  · exact Rat.mul_nonneg h h
  · have := Rat.mul_nonneg (a := -x) (b := -x) (by grind) (by grind)
    grind

/-- Within a block whose beginnings are not less than its mean. -/
theorem least_block {xs ws : List Int} (hv : Vl xs ws) {F Y : Nat → Rat} {lo n : Nat} {m : Rat} (hn : lo + n ≤ xs.length) (hF : ∀ j, j < n → F (lo + j) = m) (hY : ∀ i j, i ≤ j → j < n → Y (lo + i) ≤ Y (lo + j))
    (hD : ∀ k, k ≤ n → m * (dsum ws lo k : Rat) ≤ (wsum xs ws lo k : Rat)) (h0 : missQ xs ws F lo ≤ missQ xs ws Y lo) :
    ∀ k c, k ≤ n → (∀ j, j < k → Y (lo + j) ≤ c) → missQ xs ws F (lo + k) + 2 * (c - m) * (m * (dsum ws lo k : Rat) - (wsum xs ws lo k : Rat)) ≤ missQ xs ws Y (lo + k)
  | 0, c, _, _ => by
    simp only [dsum, wsum, Nat.add_zero]
    have e : ((0 : Int) : Rat) = 0 := rfl
    rw [e]
    grind
  | k + 1, c, hk, hc => by
    have ih := least_block hv hn hF hY hD h0 k (Y (lo + k)) (by omega) fun j hj => hY j k (by omega) (by omega)
    have h1 := hF k (by omega)
    have h2 := hc k (by omega)
    have h3 := hD (k + 1) hk
    have hw := hv.w (lo + k) (by omega)
    have hw0 : (0 : Rat) ≤ (gi ws (lo + k) : Rat) := Rat.intCast_nonneg.2 (by omega)
    have k1 : 0 ≤ (Y (lo + k) - m) * (Y (lo + k) - m) * (gi ws (lo + k) : Rat) := Rat.mul_nonneg (sq_nonneg _) hw0
    have k2 : 0 ≤ (c - Y (lo + k)) * ((wsum xs ws lo (k + 1) : Rat) - m * (dsum ws lo (k + 1) : Rat)) := Rat.mul_nonneg (by grind) (by grind)
    rw [show lo + (k + 1) = lo + k + 1 from rfl]
    simp only [missQ, dsum, wsum, Rat.intCast_add, Rat.intCast_mul] at *
    rw [h1]
    generalize Y (lo + k) = y at *
    generalize (gi ws (lo + k) : Rat) = w at *
    generalize (gi xs (lo + k) : Rat) = x at *
    generalize (dsum ws lo k : Rat) = d at *
    generalize (wsum xs ws lo k : Rat) = s at *
    have e1 : (y - x) * (y - x) * w = (m - x) * (m - x) * w + (y - m) * (y - m) * w + 2 * (y - m) * (m * w - x * w) := by grind
    have e2 : 2 * (c - m) * (m * (d + w) - (s + x * w)) = 2 * (y - m) * (m * d - s) + 2 * (y - m) * (m * w - x * w) - 2 * ((c - y) * (s + x * w - m * (d + w))) := by grind
    grind

theorem mono_all {Y : Nat → Rat} {n : Nat} (h : ∀ j, j + 1 < n → Y j ≤ Y (j + 1)) : ∀ d i, i + d < n → Y i ≤ Y (i + d)
  | 0, _, _ => Rat.le_refl
  | d + 1, i, hi => Rat.le_trans (mono_all h d i (by omega)) (h (i + d) (by omega))
theorem mono_le {Y : Nat → Rat} {n : Nat} (h : ∀ j, j + 1 < n → Y j ≤ Y (j + 1)) {i j : Nat} (hij : i ≤ j) (hj : j < n) : Y i ≤ Y j := by
  have := mono_all h (j - i) i (by omega)
  rwa [show i + (j - i) = j from by omega] at this

theorem miss_least {xs ws : List Int} (hv : Vl xs ws) {Y : Nat → Rat} (hY : ∀ j, j + 1 < xs.length → Y j ≤ Y (j + 1)) : missR xs ws ≤ missQ xs ws Y xs.length := by
  have hB := bks_pool hv
  have hd := poolR_dec1 (xs := xs) (ws := ws)
  have hG : ∀ t, t < (poolR xs ws xs.length).length → ∀ j, bd (xs.length :: poolR xs ws xs.length) t ≤ j → j < bd (xs.length :: poolR xs ws xs.length) (t + 1) → bmq xs ws (poolR xs ws xs.length) j = mq xs ws (bd (xs.length :: poolR xs ws xs.length) t) (bd (xs.length :: poolR xs ws xs.length) (t + 1) - 1) :=
    fun t ht j h1 h2 => bmq_eq hd ht h1 h2
  unfold missR
  generalize bmq xs ws (poolR xs ws xs.length) = F at *
  generalize bd (xs.length :: poolR xs ws xs.length) = B at *
  generalize (poolR xs ws xs.length).length = m at *
  have key : ∀ t, t ≤ m → missQ xs ws F (B t) ≤ missQ xs ws Y (B t) := by
    intro t
    induction t with
    | zero => intro _; rw [hB.zero]; exact Rat.le_refl
    | succ t ih =>
      intro ht
      have hu := hB.up t (by omega)
      have hle := hB.le (m - (t + 1)) (t + 1) (by omega)
      have h0 := ih (by omega)
      have hp := hB.from hv (m - t) t (by omega) (by omega) (c := mn xs ws (B t) (B (t + 1) - B t)) Rat.le_refl
      have hg := hG t (by omega)
      obtain ⟨n, hn⟩ : ∃ n, B (t + 1) = B t + n := ⟨B (t + 1) - B t, by omega⟩
      rw [hn] at hle hg ⊢
      rw [hn, show B t + n - B t = n from by omega] at hp
      have e1 := mn_mul hv (i := B t) (n := n) (by omega) (by omega)
      have k1 := least_block hv (F := F) (Y := Y) (lo := B t) (n := n) (m := mn xs ws (B t) n) hle
        (fun j hj => by rw [hg (B t + j) (by omega) (by omega), mq_mn, show B t + n - 1 + 1 - B t = n from by omega])
        (fun i j h1 h2 => mono_le hY (by omega) (by omega))
        (fun k hk => by
          rcases Nat.eq_zero_or_pos k with h | h
          · subst h; simp [dsum, wsum]
          · exact hp k h (by omega)) h0 n (Y (B t + n - 1)) (Nat.le_refl _) (fun j hj => mono_le hY (by omega) (by omega))
      rw [e1] at k1
      grind
  have h := key m (Nat.le_refl _)
  rw [hB.last] at h
  exact h

theorem missI_miss {xs ws ys : List Int} : ∀ n, (missI xs ws ys n : Rat) = missQ xs ws (fun j => (gi ys j : Rat)) n
  | 0 => rfl
  | n + 1 => by
    have ih := missI_miss (xs := xs) (ws := ws) (ys := ys) n
    simp only [missI, missQ, Rat.intCast_add, Rat.intCast_mul, Rat.intCast_sub, ih]
    grind

theorem miss_zero {xs ws : List Int} {F : Nat → Rat} (hw : ∀ j, j < xs.length → 1 ≤ gi ws j) : ∀ n, n ≤ xs.length → missQ xs ws F n = 0 → ∀ j, j < n → F j = (gi xs j : Rat)
  | 0, _, _, j, hj => absurd hj (Nat.not_lt_zero _)
  | n + 1, hn, h, j, hj => by
    have h1 := missQ_nonneg (xs := xs) (ws := ws) (F := F) n fun i hi => by have := hw i (by omega); omega
    have h2 := hw n (by omega)
    have hw1 : (1 : Rat) ≤ (gi ws n : Rat) := Rat.intCast_le_intCast.2 h2
    have h3 := sq_nonneg (F n - (gi xs n : Rat))
    have h4 : 0 ≤ (F n - (gi xs n : Rat)) * (F n - (gi xs n : Rat)) * ((gi ws n : Rat) - 1) := Rat.mul_nonneg h3 (by grind)
    simp only [missQ] at h
    have h5 : missQ xs ws F n = 0 := by grind
    by_cases hjn : j = n
    · subst hjn
      have h6 : (F j - (gi xs j : Rat)) * (F j - (gi xs j : Rat)) = 0 := by grind
      have := Rat.mul_eq_zero.1 h6
      grind
    · exact miss_zero hw n (by omega) h5 j (by omega)
theorem miss_same {xs ws : List Int} {F : Nat → Rat} : ∀ n, (∀ j, j < n → F j = (gi xs j : Rat)) → missQ xs ws F n = 0
  | 0, _ => rfl
  | n + 1, h => by
    have ih := miss_same (xs := xs) (ws := ws) n fun j hj => h j (by omega)
    simp only [missQ, ih, h n (by omega)]
    grind

theorem miss_clm {xs ws : List Int} (hv : Vl xs ws) : missR xs ws = 0 ↔ Clm xs xs.length := by
  constructor
  · intro h k hk
    have h1 := miss_zero (fun j hj => (hv.w j hj).1) xs.length (Nat.le_refl _) h
    have a := h1 k (by omega)
    have b := h1 (k + 1) hk
    rw [← best_eq hv (by omega)] at a b
    have c := best_mono (xs := xs) (ws := ws) hk
    rw [a, b] at c
    exact Rat.intCast_le_intCast.1 c
  · intro h
    refine miss_same _ fun j hj => ?_
    rw [← best_eq hv hj]
    exact best_clm hv h hj

theorem clm_topI (xs : List Int) (k : Nat) : topI xs k ≤ topI xs (k + 1) := by
  simp only [topI]
  omega
theorem topI_bd {xs : List Int} {n : Nat} (h : ∀ k, k < n → -30 ≤ gi xs k ∧ gi xs k ≤ 30) : ∀ k, k < n → -30 ≤ topI xs k ∧ topI xs k ≤ 30
  | 0, hk => h 0 hk
  | k + 1, hk => by
    have h1 := h (k + 1) hk
    have h2 := topI_bd h k (by omega)
    simp only [topI]
    omega

end Go.Proofs.Ytcmbfkdhfdiamaa
