/- The least values of those that do not stand ahead: both reckonings are one. No walk here. -/
import Derived.Test.YtjkadlmlkcanpaaBackP
namespace Go.Proofs.Ytjkadlmlkcanpaa
open Go.RowKit

/-- The reference's least one so far, of those that do not stand ahead of i. -/
def suM (val : Int → Nat → Int) (xs : List Int) (i : Nat) : Nat → Int
  | 0 => 1000
  | k + 1 => if plc xs i xs.length ≤ plc xs k xs.length then min (suM val xs i k) (val (gi xs k) (plc xs k xs.length)) else suM val xs i k
theorem suM_le {val : Int → Nat → Int} {xs : List Int} {i : Nat} : ∀ n, suM val xs i n ≤ 1000
  | 0 => Int.le_refl _
  | n + 1 => by
    have ih := suM_le (val := val) (xs := xs) (i := i) n
    simp only [suM]
    split <;> omega
theorem suM_low {val : Int → Nat → Int} {xs : List Int} {i : Nat} : ∀ n k, k < n → plc xs i xs.length ≤ plc xs k xs.length → suM val xs i n ≤ val (gi xs k) (plc xs k xs.length)
  | 0, k, h, _ => absurd h (Nat.not_lt_zero _)
  | n + 1, k, h, hp => by
    have ih := suM_low (val := val) (xs := xs) (i := i) n k
    simp only [suM]
    by_cases hk : k = n
    · subst hk; rw [if_pos hp]; omega
    · have := ih (by omega) hp
      split <;> omega
theorem suM_is {val : Int → Nat → Int} {xs : List Int} {i : Nat} : ∀ n, suM val xs i n = 1000 ∨ ∃ k, k < n ∧ plc xs i xs.length ≤ plc xs k xs.length ∧ suM val xs i n = val (gi xs k) (plc xs k xs.length)
  | 0 => .inl rfl
  | n + 1 => by
    have ih := suM_is (val := val) (xs := xs) (i := i) n
    simp only [suM]
    split
    · rename_i hp
      by_cases hle : suM val xs i n ≤ val (gi xs n) (plc xs n xs.length)
      · rw [show min (suM val xs i n) (val (gi xs n) (plc xs n xs.length)) = suM val xs i n by omega]
        rcases ih with h | ⟨k, h1, h2, h3⟩
        · exact .inl h
        · exact .inr ⟨k, by omega, h2, h3⟩
      · exact .inr ⟨n, by omega, hp, by omega⟩
    · rcases ih with h | ⟨k, h1, h2, h3⟩
      · exact .inl h
      · exact .inr ⟨k, by omega, h2, h3⟩
theorem bkM_le {val : Int → Nat → Int} {xs : List Int} : ∀ k, bkM val xs k ≤ 1000
  | 0 => Int.le_refl _
  | k + 1 => by
    have ih := bkM_le (val := val) (xs := xs) k
    simp only [bkM]
    omega
theorem bkM_low {val : Int → Nat → Int} {xs : List Int} : ∀ k j, j < k → bkM val xs k ≤ val (gi xs (ordAt xs (xs.length - 1 - j))) (xs.length - 1 - j)
  | 0, j, h => absurd h (Nat.not_lt_zero _)
  | k + 1, j, h => by
    have ih := bkM_low (val := val) (xs := xs) k j
    simp only [bkM]
    by_cases hk : j = k
    · subst hk; omega
    · have := ih (by omega)
      omega
theorem bkM_is {val : Int → Nat → Int} {xs : List Int} : ∀ k, bkM val xs k = 1000 ∨ ∃ j, j < k ∧ bkM val xs k = val (gi xs (ordAt xs (xs.length - 1 - j))) (xs.length - 1 - j)
  | 0 => .inl rfl
  | k + 1 => by
    have ih := bkM_is (val := val) (xs := xs) k
    simp only [bkM]
    by_cases hle : bkM val xs k ≤ val (gi xs (ordAt xs (xs.length - 1 - k))) (xs.length - 1 - k)
    · rw [show min (bkM val xs k) (val (gi xs (ordAt xs (xs.length - 1 - k))) (xs.length - 1 - k)) = bkM val xs k by omega]
      rcases ih with h | ⟨j, h1, h3⟩
      · exact .inl h
      · exact .inr ⟨j, by omega, h3⟩
    · exact .inr ⟨k, by omega, by omega⟩
theorem su_eq (val : Int → Nat → Int) {xs : List Int} {i : Nat} (hi : i < xs.length) : bkM val xs (xs.length - plc xs i xs.length) = suM val xs i xs.length := by
  have hp := plc_lt xs xs.length i hi
  have h0 := bkM_le (val := val) (xs := xs) (xs.length - plc xs i xs.length)
  have h0' := suM_le (val := val) (xs := xs) (i := i) xs.length
  apply Int.le_antisymm
  · rcases suM_is (val := val) (xs := xs) (i := i) xs.length with h | ⟨k, h1, h2, h3⟩
    · omega
    · have hk := plc_lt xs xs.length k h1
      have h4 := bkM_low (val := val) (xs := xs) (xs.length - plc xs i xs.length) (xs.length - 1 - plc xs k xs.length) (by omega)
      rw [show xs.length - 1 - (xs.length - 1 - plc xs k xs.length) = plc xs k xs.length by omega, ordAt_plc h1] at h4
      omega
  · rcases bkM_is (val := val) (xs := xs) (xs.length - plc xs i xs.length) with h | ⟨j, h1, h3⟩
    · omega
    · have hr : xs.length - 1 - j < xs.length := by omega
      have h4 := suM_low (val := val) (xs := xs) (i := i) xs.length (ordAt xs (xs.length - 1 - j)) (ordAt_get hr).2 (by rw [plc_ordAt hr]; omega)
      rw [plc_ordAt hr] at h4
      omega

/-- The values of a step up, and of a share. -/
def upVal (n : Nat) (p : Int) (r : Nat) : Int := p * ((n : Int) - (r : Int))
def shVal (n : Nat) (p : Int) (r : Nat) : Int := (p * (n : Int) + (r : Int)).tdiv ((r : Int) + 1)
theorem upVal_in {n r : Nat} {p : Int} (h1 : 0 ≤ p ∧ p ≤ 1000) (hn : n ≤ 6) (hr : r < n) : 0 ≤ upVal n p r ∧ upVal n p r ≤ 6000 := prod6 h1 (by omega)
theorem shVal_in {n r : Nat} {p : Int} (h1 : 0 ≤ p ∧ p ≤ 1000) (hn : n ≤ 6) (hr : r < n) : 0 ≤ shVal n p r ∧ shVal n p r ≤ 6010 := by
  have h := prod6 h1 (y := (n : Int)) (by omega)
  unfold shVal
  rw [Int.tdiv_eq_ediv_of_nonneg (by omega)]
  have h2 : (p * (n : Int) + (r : Int)) / ((r : Int) + 1) ≤ p * (n : Int) + (r : Int) := Int.ediv_le_self _ (by omega)
  exact ⟨Int.ediv_nonneg (by omega) (by omega), by omega⟩
theorem su_in {val : Int → Nat → Int} {xs : List Int} (hv : Ov xs) (hval : ∀ (p : Int) (r : Nat), 0 ≤ p ∧ p ≤ 1000 → r < xs.length → 0 ≤ val p r) {i : Nat} : 0 ≤ suM val xs i xs.length := by
  rcases suM_is (val := val) (xs := xs) (i := i) xs.length with h | ⟨k, h1, h2, h3⟩
  · omega
  · have := hval _ _ (hv.x k h1) (plc_lt xs _ k h1)
    omega
/-- What StepUp, and FalseShare, return. -/
def suV (val : Nat → Int → Nat → Int) (xs : List Int) : List Int := if ovB xs = true then tabI (fun i => suM (val xs.length) xs i xs.length) xs.length else []
theorem suV_le (val : Nat → Int → Nat → Int) (xs : List Int) (h : xs.length ≤ 1048576) : (suV val xs).length ≤ 1048576 := by
  unfold suV
  split
  · rw [tabI_length]; exact h
  · simp

end Go.Proofs.Ytjkadlmlkcanpaa
