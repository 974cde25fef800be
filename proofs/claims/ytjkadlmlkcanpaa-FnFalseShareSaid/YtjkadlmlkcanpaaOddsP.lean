/- Times all, steps down, steps up and shares, one below the other; shares and odds; the plain reckoning. No walk here. -/
import Derived.Test.YtjkadlmlkcanpaaUpP
namespace Go.Proofs.Ytjkadlmlkcanpaa
open Go.RowKit

theorem ord_le {xs : List Int} {j i : Nat} (hj : j < xs.length) (hi : i < xs.length) (h : plc xs j xs.length ≤ plc xs i xs.length) : gi xs j ≤ gi xs i := by
  have h1 := ord_plc xs xs.length j hj
  have h2 := ord_plc xs xs.length i hi
  have hs := ordK_srt (keyOf xs) xs.length
  rcases Nat.lt_or_eq_of_le h with h | h
  · obtain ⟨l1, e1⟩ := List.getElem?_eq_some_iff.1 h1
    obtain ⟨l2, e2⟩ := List.getElem?_eq_some_iff.1 h2
    have := List.pairwise_iff_getElem.1 hs _ _ l1 l2 h
    rw [e1, e2, keyOf_nat, keyOf_nat] at this
    exact this
  · have hji : j = i := by rw [← ordAt_plc hj, h, ordAt_plc hi]
    rw [hji]
    exact Int.le_refl _

/-- A share, rounded up, is at most q. -/
theorem share_le {y q : Int} {r : Nat} (hy : 0 ≤ y) : (y + (r : Int)).tdiv ((r : Int) + 1) ≤ q ↔ y ≤ q * ((r : Int) + 1) := by
  rw [Int.tdiv_eq_ediv_of_nonneg (by omega)]
  have h1 : (y + (r : Int)) / ((r : Int) + 1) ≤ q ↔ (y + (r : Int)) / ((r : Int) + 1) < q + 1 := by omega
  rw [h1, Int.ediv_lt_iff_lt_mul (by omega), Int.add_mul]
  omega
theorem mul_low {x n r : Int} (hx : 0 ≤ x) (hr : 0 ≤ r) (hn : r + 1 ≤ n) : x * n ≤ x * (n - r) * (r + 1) := by
  rw [Int.mul_assoc]
  refine Int.mul_le_mul_of_nonneg_left ?_ hx
  have h : 0 ≤ r * (n - r - 1) := Int.mul_nonneg hr (by omega)
  have e : (n - r) * (r + 1) = n + r * (n - r - 1) := by
    rw [Int.mul_add, Int.mul_one, Int.mul_sub, Int.mul_one, Int.mul_comm (n - r) r]
    omega
  omega
theorem sh_le_up {n r : Nat} {x : Int} (hx : 0 ≤ x) (hr : r < n) : shVal n x r ≤ upVal n x r := by
  unfold shVal upVal
  rw [share_le (Int.mul_nonneg hx (by omega))]
  exact mul_low hx (by omega) (by omega)
theorem sh_ge {n r : Nat} {x y : Int} (hx : 0 ≤ x) (hxy : x ≤ y) (hr : r < n) : x ≤ shVal n y r := by
  unfold shVal
  refine Int.not_lt.1 fun h => ?_
  have h2 : (y * (n : Int) + (r : Int)).tdiv ((r : Int) + 1) ≤ x - 1 := by omega
  rw [share_le (Int.mul_nonneg (by omega) (by omega))] at h2
  have h3 : y * ((r : Int) + 1) ≤ y * (n : Int) := Int.mul_le_mul_of_nonneg_left (by omega) (by omega)
  have h4 : (x - 1) * ((r : Int) + 1) ≤ y * ((r : Int) + 1) - ((r : Int) + 1) := by
    rw [Int.sub_mul, Int.one_mul]
    have := Int.mul_le_mul_of_nonneg_right hxy (show (0 : Int) ≤ (r : Int) + 1 by omega)
    omega
  omega
theorem sh_anti {n r r' : Nat} {x : Int} (hx : 0 ≤ x) (h : r ≤ r') : shVal n x r' ≤ shVal n x r := by
  have hy : 0 ≤ x * (n : Int) := Int.mul_nonneg hx (by omega)
  have h1 : x * (n : Int) ≤ shVal n x r * ((r : Int) + 1) := (share_le hy).1 (Int.le_refl _)
  have h0 : 0 ≤ shVal n x r := by
    unfold shVal
    exact Int.tdiv_nonneg (by omega) (by omega)
  unfold shVal at h1 h0 ⊢
  rw [share_le hy]
  exact Int.le_trans h1 (Int.mul_le_mul_of_nonneg_left (by omega) h0)

/-- Times all. -/
def taM (xs : List Int) (i : Nat) : Int := min 1000 (gi xs i * (xs.length : Int))
theorem ta_sd {xs : List Int} (hv : Ov xs) {i : Nat} (hi : i < xs.length) : min (sdM xs i xs.length) 1000 ≤ taM xs i := by
  unfold taM
  have hx := hv.x i hi
  have h0 : 0 ≤ gi xs i * (xs.length : Int) := Int.mul_nonneg hx.1 (by omega)
  rcases sdM_is (xs := xs) (i := i) xs.length with h | ⟨k, h1, h2, h3⟩
  · omega
  · have hk := ord_le h1 hi h2
    have hxk := hv.x k h1
    have hp := plc_lt xs _ k h1
    have : gi xs k * ((xs.length : Int) - (plc xs k xs.length : Int)) ≤ gi xs i * (xs.length : Int) :=
      Int.mul_le_mul hk (by omega) (by omega) (by omega)
    omega
theorem sd_su {xs : List Int} {i : Nat} (hi : i < xs.length) : suM (upVal xs.length) xs i xs.length ≤ min (sdM xs i xs.length) 1000 := by
  have h1 := suM_low (val := upVal xs.length) (xs := xs) (i := i) xs.length i hi (Nat.le_refl _)
  have h2 := sdM_ge (xs := xs) (i := i) xs.length i hi (Nat.le_refl _)
  have h3 := suM_le (val := upVal xs.length) (xs := xs) (i := i) xs.length
  unfold upVal at h1
  unfold upVal at h3 ⊢
  omega
theorem su_sh {xs : List Int} (hv : Ov xs) {i : Nat} : suM (shVal xs.length) xs i xs.length ≤ suM (upVal xs.length) xs i xs.length := by
  rcases suM_is (val := upVal xs.length) (xs := xs) (i := i) xs.length with h | ⟨k, h1, h2, h3⟩
  · rw [h]; exact suM_le _
  · rw [h3]
    exact Int.le_trans (suM_low _ k h1 h2) (sh_le_up (hv.x k h1).1 (plc_lt xs _ k h1))
theorem sh_own {xs : List Int} (hv : Ov xs) {i : Nat} (hi : i < xs.length) : gi xs i ≤ suM (shVal xs.length) xs i xs.length := by
  rcases suM_is (val := shVal xs.length) (xs := xs) (i := i) xs.length with h | ⟨k, h1, h2, h3⟩
  · rw [h]; exact (hv.x i hi).2
  · rw [h3]
    exact sh_ge (hv.x i hi).1 (ord_le hi h1 h2) (plc_lt xs _ k h1)
theorem sh_up {xs : List Int} {i k : Nat} (h : plc xs i xs.length ≤ plc xs k xs.length) : suM (shVal xs.length) xs i xs.length ≤ suM (shVal xs.length) xs k xs.length := by
  rcases suM_is (val := shVal xs.length) (xs := xs) (i := k) xs.length with h0 | ⟨j, h1, h2, h3⟩
  · rw [h0]; exact suM_le _
  · rw [h3]
    exact suM_low _ j h1 (by omega)
theorem sh_same {xs : List Int} (hv : Ov xs) {i k : Nat} (hi : i < xs.length) (hk : k < xs.length) (h : gi xs i = gi xs k) : suM (shVal xs.length) xs i xs.length ≤ suM (shVal xs.length) xs k xs.length := by
  rcases suM_is (val := shVal xs.length) (xs := xs) (i := k) xs.length with h0 | ⟨j, h1, h2, h3⟩
  · rw [h0]; exact suM_le _
  · by_cases hj : plc xs i xs.length ≤ plc xs j xs.length
    · rw [h3]
      exact suM_low _ j h1 hj
    · have hji : plc xs j xs.length ≤ plc xs i xs.length := by omega
      have e1 := ord_le h1 hi hji
      have e2 := ord_le hk h1 h2
      have e3 : gi xs j = gi xs i := by omega
      rw [h3, e3]
      exact Int.le_trans (suM_low _ i hi (Nat.le_refl _)) (sh_anti (hv.x i hi).1 hji)
theorem sh_mono {xs : List Int} {i k : Nat} (hi : i < xs.length) (hk : k < xs.length) (h : gi xs i < gi xs k) : suM (shVal xs.length) xs i xs.length ≤ suM (shVal xs.length) xs k xs.length := by
  refine sh_up ?_
  refine Nat.le_of_not_lt fun hh => ?_
  have := ord_le hk hi (by omega)
  omega
/-- The one behind all others: its share is itself. -/
theorem sh_last {xs : List Int} (hv : Ov xs) : ∃ k, k < xs.length ∧ (∀ i, i < xs.length → gi xs i ≤ gi xs k) ∧ (∀ i, i < xs.length → suM (shVal xs.length) xs i xs.length ≤ suM (shVal xs.length) xs k xs.length) ∧ suM (shVal xs.length) xs k xs.length = gi xs k := by
  have h0 := hv.n0
  have hl : xs.length - 1 < xs.length := by omega
  have hk := (ordAt_get hl).2
  have hp := plc_ordAt hl
  refine ⟨ordAt xs (xs.length - 1), hk, fun i hi => ord_le hi hk ?_, fun i hi => sh_up ?_, ?_⟩
  · rw [hp]; have := plc_lt xs _ i hi; omega
  · rw [hp]; have := plc_lt xs _ i hi; omega
  · apply Int.le_antisymm
    · refine Int.le_trans (suM_low _ _ hk (Nat.le_refl _)) ?_
      rw [hp]
      unfold shVal
      rw [share_le (Int.mul_nonneg (hv.x _ hk).1 (by omega)), show ((xs.length - 1 : Nat) : Int) + 1 = (xs.length : Int) by omega]
      exact Int.le_refl _
    · exact sh_own hv hk

end Go.Proofs.Ytjkadlmlkcanpaa
