/- What a rise and a fall miss together: the plain reckoning. No program here. -/
import Derived.Test.YtcmbfkdhfdiamaaRiseMiss
import Derived.Test.YtcmbfkdhfdiamaaHullP
namespace Go.Proofs.Ytcmbfkdhfdiamaa
open Go.RowKit

def Vl0 (xs ws : List Int) : Prop := (xs = [] ∧ ws = []) ∨ Vl xs ws
theorem miss0_end {xs ws : List Int} (h : Vl0 xs ws) : ∃ E : Int, 1 ≤ E ∧ E * E ≤ ((10 ^ xs.length : Nat) : Int) ∧ Dv (missR xs ws) E ∧ 0 ≤ missR xs ws ∧ missR xs ws ≤ ((162000 * xs.length : Int) : Rat) := by
  rcases h with ⟨rfl, rfl⟩ | hv
  · exact ⟨1, by omega, by decide, Dv.zero 1, Rat.le_refl, Rat.le_refl⟩
  · exact miss_sm_end hv poolR_dec1 (poolR_first hv.n0)

/-- The first k rise, the others fall. -/
def peakT (xs ws : List Int) (k : Nat) : Rat := missR (xs.take k) (ws.take k) + missR (xs.drop k).reverse (ws.drop k).reverse

theorem gi_take {xs : List Int} {k j : Nat} (h : j < k) : gi (xs.take k) j = gi xs j := by
  unfold gi
  simp only [List.getD_eq_getElem?_getD, List.getElem?_take, if_pos h]
theorem gi_drop {xs : List Int} {k j : Nat} : gi (xs.drop k) j = gi xs (k + j) := by
  unfold gi
  simp only [List.getD_eq_getElem?_getD, List.getElem?_drop]
theorem vl_take {xs ws : List Int} (hv : Vl xs ws) {k : Nat} (hk : k ≤ xs.length) : Vl0 (xs.take k) (ws.take k) := by
  have h0 := hv.n0
  have h8 := hv.n8
  have hw := hv.nw
  rcases Nat.eq_zero_or_pos k with h | h
  · subst h; exact Or.inl ⟨rfl, rfl⟩
  · refine Or.inr ⟨by rw [List.length_take]; omega, by rw [List.length_take]; omega, by rw [List.length_take, List.length_take]; omega, fun j hj => ?_, fun j hj => ?_⟩
    · rw [List.length_take] at hj
      rw [gi_take (by omega)]
      exact hv.x j (by omega)
    · rw [List.length_take] at hj
      rw [gi_take (by omega)]
      exact hv.w j (by omega)
theorem vl_drop {xs ws : List Int} (hv : Vl xs ws) {k : Nat} (hk : k ≤ xs.length) : Vl0 (xs.drop k).reverse (ws.drop k).reverse := by
  have h0 := hv.n0
  have h8 := hv.n8
  have hw := hv.nw
  rcases Nat.lt_or_ge k xs.length with h | h
  · refine Or.inr ⟨by rw [List.length_reverse, List.length_drop]; omega, by rw [List.length_reverse, List.length_drop]; omega, by rw [List.length_reverse, List.length_reverse, List.length_drop, List.length_drop]; omega, fun j hj => ?_, fun j hj => ?_⟩
    · rw [List.length_reverse] at hj
      rw [gi_reverse hj, gi_drop]
      rw [List.length_drop] at hj ⊢
      exact hv.x _ (by omega)
    · rw [List.length_reverse, List.length_drop] at hj
      rw [gi_reverse (by rw [List.length_drop]; omega), gi_drop]
      rw [List.length_drop]
      exact hv.w _ (by omega)
  · refine Or.inl ⟨?_, ?_⟩
    · rw [List.drop_eq_nil_of_le h]; rfl
    · rw [List.drop_eq_nil_of_le (by omega)]; rfl

theorem root_bd {E : Int} (_h1 : 1 ≤ E) (h2 : E * E ≤ 100000000) : E ≤ 10000 := by
  by_cases h : E ≤ 10000
  · exact h
  · have := Int.mul_le_mul (a := 10001) (b := 10001) (c := E) (d := E) (by omega) (by omega) (by omega) (by omega)
    omega
theorem pow_bd {k : Nat} (h : k ≤ 8) : ((10 ^ k : Nat) : Int) ≤ 100000000 := by
  have := Nat.pow_le_pow_right (n := 10) (by omega) h
  have e : (10 : Nat) ^ 8 = 100000000 := rfl
  omega
theorem miss0_sm {xs ws : List Int} (h : Vl0 xs ws) (hl : xs.length ≤ 8) : Sm 12960000000 10000 (missR xs ws) := by
  obtain ⟨E, e1, e2, e3, e4, e5⟩ := miss0_end h
  have hE := root_bd e1 (Int.le_trans e2 (pow_bd hl))
  obtain ⟨s1, s2, s3⟩ := e3.sm (by omega) e4 e5
  have k : 162000 * (xs.length : Int) * E ≤ 1296000 * 10000 := Int.mul_le_mul (by omega) hE (by omega) (by omega)
  exact ⟨by omega, by omega, by omega⟩
theorem peak_sm {xs ws : List Int} (hv : Vl xs ws) {k : Nat} (hk : k ≤ xs.length) : Sm 12960000000 10000 (peakT xs ws k) := by
  obtain ⟨E, e1, e2, e3, e4, e5⟩ := miss0_end (vl_take hv hk)
  obtain ⟨D, d1, d2, d3, d4, d5⟩ := miss0_end (vl_drop hv hk)
  have h8 := hv.n8
  have hED : E * D * (E * D) ≤ 100000000 := by
    have h1 := Int.mul_le_mul e2 d2 (by have := Int.mul_pos (a := D) (b := D) (by omega) (by omega); omega) (Int.natCast_nonneg _)
    have e : E * E * (D * D) = E * D * (E * D) := by grind
    rw [e] at h1
    have h2 : (((10 ^ (xs.take k).length : Nat) : Int)) * ((10 ^ (xs.drop k).reverse.length : Nat) : Int) = ((10 ^ xs.length : Nat) : Int) := by
      rw [← Int.natCast_mul, ← Nat.pow_add]
      congr 2
      rw [List.length_take, List.length_reverse, List.length_drop]
      omega
    rw [h2] at h1
    exact Int.le_trans h1 (pow_bd h8)
  have hp : 1 ≤ E * D := by have := Int.mul_pos (a := E) (b := D) (by omega) (by omega); omega
  have hE := root_bd hp hED
  have hdv : Dv (peakT xs ws k) (E * D) := Dv.add (e3.mul D) (d3.mul' E)
  have h0 : 0 ≤ peakT xs ws k := by unfold peakT; grind
  have h1 : peakT xs ws k ≤ ((162000 * xs.length : Int) : Rat) := by
    have e : ((162000 * (xs.length : Int) : Int) : Rat) = ((162000 * ((xs.take k).length : Int) : Int) : Rat) + ((162000 * ((xs.drop k).reverse.length : Int) : Int) : Rat) := by
      rw [← Rat.intCast_add]
      congr 1
      rw [List.length_take, List.length_reverse, List.length_drop]
      omega
    rw [e]
    unfold peakT
    grind
  obtain ⟨s1, s2, s3⟩ := hdv.sm (by omega) h0 h1
  have kk : 162000 * (xs.length : Int) * (E * D) ≤ 1296000 * 10000 := Int.mul_le_mul (by omega) hE (by omega) (by omega)
  exact ⟨by omega, by omega, by omega⟩
theorem peak_last (xs ws : List Int) (hw : ws.length = xs.length) : peakT xs ws xs.length = missR xs ws := by
  unfold peakT
  rw [List.take_length, ← hw, List.take_length, List.drop_length, hw, List.drop_length]
  have : missR [].reverse [].reverse = 0 := rfl
  rw [this]
  grind
theorem peak_first (xs ws : List Int) : peakT xs ws 0 = missR xs.reverse ws.reverse := by
  unfold peakT
  rw [List.take_zero, List.take_zero, List.drop_zero, List.drop_zero]
  have : missR [] [] = 0 := rfl
  rw [this]
  grind

/-- The first one of the least, up to n. -/
def pkI (T : Nat → Rat) : Nat → Nat
  | 0 => 0
  | k + 1 => if T (k + 1) < T (pkI T k) then k + 1 else pkI T k
theorem pkI_le {T : Nat → Rat} : ∀ n, pkI T n ≤ n
  | 0 => Nat.le_refl _
  | n + 1 => by
    have ih := pkI_le (T := T) n
    simp only [pkI]
    split <;> omega
theorem pkI_min {T : Nat → Rat} : ∀ n j, j ≤ n → T (pkI T n) ≤ T j
  | 0, j, h => by obtain rfl : j = 0 := by omega
                  exact Rat.le_refl
  | n + 1, j, h => by
    have ih := pkI_min (T := T) n
    simp only [pkI]
    by_cases hj : j = n + 1
    · subst hj; split <;> grind
    · have := ih j (by omega); split <;> grind

end Go.Proofs.Ytcmbfkdhfdiamaa
