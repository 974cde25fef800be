/- Steps down: both reckonings are one. No program here. -/
import Derived.Test.YtjkadlmlkcanpaaOdds
import Derived.Test.YtjkadlmlkcanpaaTab
namespace Go.Proofs.Ytjkadlmlkcanpaa
open Go.RowKit

/-- The one at a place of the order by size. -/
def ordAt (xs : List Int) (r : Nat) : Nat := (gi (ordK (keyOf xs) xs.length) r).toNat
theorem ordAt_get {xs : List Int} {r : Nat} (h : r < xs.length) : (ordK (keyOf xs) xs.length)[r]? = some ((ordAt xs r : Nat) : Int) ∧ ordAt xs r < xs.length := by
  have hl := ordK_length (keyOf xs) xs.length
  have h1 : r < (ordK (keyOf xs) xs.length).length := by omega
  have hm : (ordK (keyOf xs) xs.length)[r] ∈ ordK (keyOf xs) xs.length := List.getElem_mem h1
  obtain ⟨k, hk, e⟩ := (ordK_mem _).1 hm
  have e2 : gi (ordK (keyOf xs) xs.length) r = (k : Int) := by rw [gi_eq h1, e]
  have e3 : ordAt xs r = k := by unfold ordAt; rw [e2]; rfl
  rw [List.getElem?_eq_getElem h1, e, e3]
  exact ⟨rfl, hk⟩
theorem plc_ordAt {xs : List Int} {r : Nat} (h : r < xs.length) : plc xs (ordAt xs r) xs.length = r := plc_ord xs _ r _ (ordAt_get h).1
theorem ordAt_plc {xs : List Int} {i : Nat} (h : i < xs.length) : ordAt xs (plc xs i xs.length) = i := by
  have h1 := ord_plc xs xs.length i h
  have h2 := (ordAt_get (plc_lt xs xs.length i h)).1
  rw [h1] at h2
  have := Option.some.inj h2
  omega

/-- The reference's greatest one so far, of those that do not stand behind i. -/
def sdM (xs : List Int) (i : Nat) : Nat → Int
  | 0 => 0
  | k + 1 => if plc xs k xs.length ≤ plc xs i xs.length then max (sdM xs i k) (gi xs k * ((xs.length : Int) - (plc xs k xs.length : Int))) else sdM xs i k
/-- The program's greatest one so far, in the order by size. -/
def idM (xs : List Int) : Nat → Int
  | 0 => 0
  | r + 1 => max (idM xs r) (min 1000 (gi xs (ordAt xs r) * ((xs.length : Int) - (r : Int))))

theorem sdM_nonneg {xs : List Int} {i : Nat} : ∀ n, 0 ≤ sdM xs i n
  | 0 => Int.le_refl _
  | n + 1 => by
    have ih := sdM_nonneg (xs := xs) (i := i) n
    simp only [sdM]
    split <;> omega
theorem sdM_ge {xs : List Int} {i : Nat} : ∀ n k, k < n → plc xs k xs.length ≤ plc xs i xs.length → gi xs k * ((xs.length : Int) - (plc xs k xs.length : Int)) ≤ sdM xs i n
  | 0, k, h, _ => absurd h (Nat.not_lt_zero _)
  | n + 1, k, h, hp => by
    have ih := sdM_ge (xs := xs) (i := i) n k
    simp only [sdM]
    by_cases hk : k = n
    · subst hk; rw [if_pos hp]; omega
    · have := ih (by omega) hp
      split <;> omega
theorem sdM_is {xs : List Int} {i : Nat} : ∀ n, sdM xs i n = 0 ∨ ∃ k, k < n ∧ plc xs k xs.length ≤ plc xs i xs.length ∧ sdM xs i n = gi xs k * ((xs.length : Int) - (plc xs k xs.length : Int))
  | 0 => .inl rfl
  | n + 1 => by
    have ih := sdM_is (xs := xs) (i := i) n
    simp only [sdM]
    split
    · rename_i hp
      by_cases hle : gi xs n * ((xs.length : Int) - (plc xs n xs.length : Int)) ≤ sdM xs i n
      · rw [show max (sdM xs i n) (gi xs n * ((xs.length : Int) - (plc xs n xs.length : Int))) = sdM xs i n by omega]
        rcases ih with h | ⟨k, h1, h2, h3⟩
        · exact .inl h
        · exact .inr ⟨k, by omega, h2, h3⟩
      · exact .inr ⟨n, by omega, hp, by omega⟩
    · rcases ih with h | ⟨k, h1, h2, h3⟩
      · exact .inl h
      · exact .inr ⟨k, by omega, h2, h3⟩
theorem idM_nonneg {xs : List Int} : ∀ n, 0 ≤ idM xs n
  | 0 => Int.le_refl _
  | n + 1 => by
    have ih := idM_nonneg (xs := xs) n
    simp only [idM]
    omega
theorem idM_ge {xs : List Int} : ∀ n r, r < n → min 1000 (gi xs (ordAt xs r) * ((xs.length : Int) - (r : Int))) ≤ idM xs n
  | 0, r, h => absurd h (Nat.not_lt_zero _)
  | n + 1, r, h => by
    have ih := idM_ge (xs := xs) n r
    simp only [idM]
    by_cases hk : r = n
    · subst hk; omega
    · have := ih (by omega)
      omega
theorem idM_le {xs : List Int} {c : Int} (h0 : 0 ≤ c) : ∀ n, (∀ r, r < n → min 1000 (gi xs (ordAt xs r) * ((xs.length : Int) - (r : Int))) ≤ c) → idM xs n ≤ c
  | 0, _ => h0
  | n + 1, h => by
    have ih := idM_le h0 n fun r hr => h r (by omega)
    have := h n (by omega)
    simp only [idM]
    omega
theorem sd_eq {xs : List Int} {i : Nat} (hi : i < xs.length) : idM xs (plc xs i xs.length + 1) = min (sdM xs i xs.length) 1000 := by
  have hp := plc_lt xs xs.length i hi
  have h0 := sdM_nonneg (xs := xs) (i := i) xs.length
  apply Int.le_antisymm
  · refine idM_le (by omega) _ fun r hr => ?_
    have hr' : r < xs.length := by omega
    have h1 := sdM_ge (xs := xs) (i := i) xs.length (ordAt xs r) (ordAt_get hr').2 (by rw [plc_ordAt hr']; omega)
    rw [plc_ordAt hr'] at h1
    omega
  · have hn := idM_nonneg (xs := xs) (plc xs i xs.length + 1)
    rcases sdM_is (xs := xs) (i := i) xs.length with h | ⟨k, h1, h2, h3⟩
    · omega
    · have h4 := idM_ge (xs := xs) (plc xs i xs.length + 1) (plc xs k xs.length) (by omega)
      rw [ordAt_plc h1] at h4
      omega

theorem prod6 {x y : Int} (h1 : 0 ≤ x ∧ x ≤ 1000) (h2 : 0 ≤ y ∧ y ≤ 6) : 0 ≤ x * y ∧ x * y ≤ 6000 :=
  ⟨Int.mul_nonneg h1.1 h2.1, Int.le_trans (Int.mul_le_mul h1.2 h2.2 h2.1 (by omega)) (by omega)⟩
theorem sdM_bd {xs : List Int} (hv : Ov xs) {i : Nat} : ∀ n, n ≤ xs.length → sdM xs i n ≤ 6000
  | 0, _ => by simp [sdM]
  | n + 1, h => by
    have ih := sdM_bd hv (i := i) n (by omega)
    have h6 := hv.n6
    have hp := plc_lt xs xs.length n (by omega)
    have := prod6 (hv.x n (by omega)) (y := (xs.length : Int) - (plc xs n xs.length : Int)) (by omega)
    simp only [sdM]
    split <;> omega
theorem idM_bd {xs : List Int} (n : Nat) : idM xs n ≤ 1000 := idM_le (by omega) n fun r _ => by omega

end Go.Proofs.Ytjkadlmlkcanpaa
