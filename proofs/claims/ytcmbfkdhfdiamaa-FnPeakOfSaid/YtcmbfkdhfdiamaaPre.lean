/- Within a block no mean from its beginning on is less than the block's own. No program here. -/
import Derived.Test.YtcmbfkdhfdiamaaInc
import Derived.Test.YtcmbfkdhfdiamaaMiss
namespace Go.Proofs.Ytcmbfkdhfdiamaa
open Go.RowKit

theorem nonneg_left {x y : Rat} (hy : 0 < y) (h : 0 ≤ x * y) : 0 ≤ x := by
  by_cases hx : 0 ≤ x
  · exact hx
  · have := Rat.mul_pos (a := -x) (b := y) (by grind) hy
    grind
theorem mix {a b M D1 D2 D3 : Rat} (h1 : 0 < D1) (h2 : 0 < D2) (h32 : D3 ≤ D2) (hab : b ≤ a) (hM : M * (D1 + D2) = a * D1 + b * D2) : M * (D1 + D3) ≤ a * D1 + b * D3 := by
  have k : (a * D1 + b * D3 - M * (D1 + D3)) * (D1 + D2) = (a - b) * D1 * (D2 - D3) := by grind
  have k2 : 0 ≤ (a - b) * D1 * (D2 - D3) := Rat.mul_nonneg (Rat.mul_nonneg (by grind) (by grind)) (by grind)
  have k3 := nonneg_left (x := a * D1 + b * D3 - M * (D1 + D3)) (y := D1 + D2) (by grind) (by rw [k]; exact k2)
  grind

theorem wsum_add (xs ws : List Int) (i m : Nat) : ∀ n, wsum xs ws i (m + n) = wsum xs ws i m + wsum xs ws (i + m) n
  | 0 => by simp [wsum]
  | n + 1 => by
    rw [← Nat.add_assoc m n 1]
    simp only [wsum]
    rw [wsum_add xs ws i m n, Nat.add_assoc i m n]
    omega
theorem dsum_add (ws : List Int) (i m : Nat) : ∀ n, dsum ws i (m + n) = dsum ws i m + dsum ws (i + m) n
  | 0 => by simp [dsum]
  | n + 1 => by
    rw [← Nat.add_assoc m n 1]
    simp only [dsum]
    rw [dsum_add ws i m n, Nat.add_assoc i m n]
    omega

/-- The mean of n numbers from i on. -/
def mn (xs ws : List Int) (i n : Nat) : Rat := qd (wsum xs ws i n) (dsum ws i n)
theorem mq_mn (xs ws : List Int) (i k : Nat) : mq xs ws i k = mn xs ws i (k + 1 - i) := rfl
theorem dsum_pos {xs ws : List Int} (hv : Vl xs ws) {i n : Nat} (hn : 1 ≤ n) (h : i + n ≤ xs.length) : (0 : Rat) < (dsum ws i n : Rat) := by
  have := dsum_bd hv i n h
  exact Rat.intCast_pos.2 (by omega)
theorem mn_mul {xs ws : List Int} (hv : Vl xs ws) {i n : Nat} (hn : 1 ≤ n) (h : i + n ≤ xs.length) : mn xs ws i n * (dsum ws i n : Rat) = (wsum xs ws i n : Rat) := by
  have := dsum_bd hv i n h
  exact qd_mul_cancel _ _ (by omega)

/-- Two rows side by side, the first one's mean not less: the mean of both is at most the mean of any beginning. -/
theorem mn_join {xs ws : List Int} (hv : Vl xs ws) {i m n : Nat} (hm : 1 ≤ m) (hn : 1 ≤ n) (h : i + (m + n) ≤ xs.length) (hge : mn xs ws (i + m) n ≤ mn xs ws i m)
    (hA : ∀ j, 1 ≤ j → j ≤ m → mn xs ws i m ≤ mn xs ws i j) (hB : ∀ j, 1 ≤ j → j ≤ n → mn xs ws (i + m) n ≤ mn xs ws (i + m) j) :
    ∀ j, 1 ≤ j → j ≤ m + n → mn xs ws i (m + n) ≤ mn xs ws i j := by
  have e1 := mn_mul hv hm (i := i) (by omega)
  have e2 := mn_mul hv hn (i := i + m) (by omega)
  have e3 := mn_mul hv (i := i) (n := m + n) (by omega) h
  have p1 := dsum_pos hv hm (i := i) (by omega)
  have p2 := dsum_pos hv hn (i := i + m) (by omega)
  rw [wsum_add, dsum_add, Rat.intCast_add, Rat.intCast_add, ← e1, ← e2] at e3
  intro j hj1 hj2
  by_cases hjm : j ≤ m
  · have k1 := hA j hj1 hjm
    have k2 := mix (D3 := 0) p1 p2 (by grind) hge e3
    have k3 : 0 ≤ (mn xs ws i m - mn xs ws i (m + n)) * (dsum ws i m : Rat) := by grind
    have k4 := nonneg_left p1 k3
    grind
  · obtain ⟨t, rfl⟩ : ∃ t, j = m + t := ⟨j - m, by omega⟩
    have ht := hB t (by omega) (by omega)
    have e4 := mn_mul hv (i := i + m) (n := t) (by omega) (by omega)
    have e5 := mn_mul hv (i := i) (n := m + t) (by omega) (by omega)
    have p3 := dsum_pos hv (i := i + m) (n := t) (by omega) (by omega)
    rw [wsum_add, dsum_add, Rat.intCast_add, Rat.intCast_add, ← e1, ← e4] at e5
    have hle : (dsum ws (i + m) t : Rat) ≤ (dsum ws (i + m) n : Rat) := by
      obtain ⟨u, rfl⟩ : ∃ u, n = t + u := ⟨n - t, by omega⟩
      have := dsum_bd hv (i + m + t) u (by omega)
      rw [dsum_add]
      exact Rat.intCast_le_intCast.2 (by omega)
    have k2 := mix p1 p2 hle hge e3
    have k3 : 0 ≤ (mn xs ws (i + m) t - mn xs ws (i + m) n) * (dsum ws (i + m) t : Rat) := Rat.mul_nonneg (by grind) (by grind)
    have k4 : 0 ≤ (mn xs ws i (m + t) - mn xs ws i (m + n)) * ((dsum ws i m : Rat) + (dsum ws (i + m) t : Rat)) := by grind
    have k5 := nonneg_left (by grind) k4
    grind

/-- Within each block (the last one first, up to the end e) no mean from its beginning on is less than the block's own. -/
def Pre (xs ws : List Int) : List Nat → Nat → Prop
  | [], _ => True
  | a :: r, e => (∀ j, 1 ≤ j → j ≤ e - a → mn xs ws a (e - a) ≤ mn xs ws a j) ∧ Pre xs ws r a
theorem popR_pre {xs ws : List Int} (hv : Vl xs ws) {i : Nat} (hi : i < xs.length) : ∀ {R : List Nat}, Dec i R → Pre xs ws R (i + 1) → Pre xs ws (popR xs ws i R) (i + 1)
  | [], _, h => h
  | [a], _, h => h
  | a :: b :: r, hd, h => by
    obtain ⟨d1, d2, d3, d4, d5⟩ := hd
    obtain ⟨h1, h2, h3⟩ := h
    have d2 : 1 ≤ a := by rcases d2 with h | h; (· cases h); exact h
    unfold popR
    split
    · exact ⟨h1, h2, h3⟩
    · rename_i hlt
      refine popR_pre hv hi (R := b :: r) ⟨by omega, d4, d5⟩ ⟨?_, h3⟩
      obtain ⟨m, rfl⟩ : ∃ m, a = b + m := ⟨a - b, by omega⟩
      obtain ⟨n, hn⟩ : ∃ n, i + 1 = b + m + n := ⟨i + 1 - (b + m), by omega⟩
      rw [mq_mn, mq_mn, show b + m - 1 + 1 - b = m from by omega, hn, show b + m + n - (b + m) = n from by omega] at hlt
      rw [hn, show b + m + n - (b + m) = n from by omega] at h1
      rw [show b + m - b = m from by omega] at h2
      rw [hn, show b + m + n - b = m + n from by omega]
      exact mn_join hv (by omega) (by omega) (by omega) (by grind) h2 h1
theorem poolR_pre {xs ws : List Int} (hv : Vl xs ws) : ∀ n, n ≤ xs.length → Pre xs ws (poolR xs ws n) n
  | 0, _ => trivial
  | n + 1, hn => by
    refine popR_pre hv (by omega) (R := n :: poolR xs ws n) ⟨Nat.le_refl _, ?_, poolR_dec xs ws n⟩ ⟨fun j h1 h2 => ?_, poolR_pre hv n (by omega)⟩
    · cases n with
      | zero => exact Or.inl rfl
      | succ n => exact Or.inr (by omega)
    · obtain rfl : j = 1 := by omega
      rw [show n + 1 - n = 1 from by omega]
      exact Rat.le_refl

end Go.Proofs.Ytcmbfkdhfdiamaa
