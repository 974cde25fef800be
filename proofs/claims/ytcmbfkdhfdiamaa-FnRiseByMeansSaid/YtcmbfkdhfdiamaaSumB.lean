/- How big the sums of means by weights grow. No program here. -/
import Derived.Test.YtcmbfkdhfdiamaaSum
namespace Go.Proofs.Ytcmbfkdhfdiamaa
open Go.RowKit

theorem Dv.sm2 {q : Rat} {E M : Int} (h : Dv q E) (hE : 0 < E) (h0 : -(M : Rat) ≤ q) (h1 : q ≤ (M : Rat)) : Sm (M * E) E q := by
  obtain ⟨z, hz⟩ := h
  have hE' : (E : Rat) ≠ 0 := fun e => by have := Rat.intCast_eq_zero_iff.1 e; omega
  have hEp : (0 : Rat) < (E : Rat) := Rat.intCast_pos.2 hE
  have hq : q = qd z E := by
    rw [qd_div]
    grind
  have hz0 : -(M * E) ≤ z := by
    have h2 : (0 : Rat) ≤ (q + (M : Rat)) * (E : Rat) := Rat.mul_nonneg (by grind) (by grind)
    have : ((-(M * E) : Int) : Rat) ≤ (z : Rat) := by rw [Rat.intCast_neg, Rat.intCast_mul, ← hz]; grind
    exact Rat.intCast_le_intCast.1 this
  have hz1 : z ≤ M * E := by
    have h2 : (0 : Rat) ≤ ((M : Rat) - q) * (E : Rat) := Rat.mul_nonneg (by grind) (by grind)
    have : (z : Rat) ≤ ((M * E : Int) : Rat) := by rw [Rat.intCast_mul, ← hz]; grind
    exact Rat.intCast_le_intCast.1 this
  rw [hq]
  exact sm_qd hE hz0 hz1 (Int.le_refl _)

theorem sumQ_bd {ws : List Int} {F : Nat → Rat} : ∀ n, (∀ j, j < n → -210 ≤ F j ∧ F j ≤ 210 ∧ 0 ≤ gi ws j ∧ gi ws j ≤ 5) → -((1050 * n : Int) : Rat) ≤ sumQ ws F n ∧ sumQ ws F n ≤ ((1050 * n : Int) : Rat)
  | 0, _ => by simp [sumQ]
  | n + 1, h => by
    have ih := sumQ_bd n fun j hj => h j (by omega)
    obtain ⟨f1, f2, w0, w5⟩ := h n (by omega)
    have h3 : (0 : Rat) ≤ (gi ws n : Rat) := Rat.intCast_nonneg.2 w0
    have h4 : (gi ws n : Rat) ≤ 5 := Rat.intCast_le_intCast.2 w5
    have k1 := Rat.mul_nonneg (a := 210 - F n) (b := (gi ws n : Rat)) (by grind) h3
    have k2 := Rat.mul_nonneg (a := 210 + F n) (b := (gi ws n : Rat)) (by grind) h3
    have e : ((1050 * ((n + 1 : Nat) : Int) : Int) : Rat) = ((1050 * (n : Int) : Int) : Rat) + 1050 := by
      rw [show (1050 * ((n + 1 : Nat) : Int) : Int) = 1050 * (n : Int) + 1050 from by omega, Rat.intCast_add]
      rfl
    rw [e]
    simp only [sumQ]
    constructor <;> grind

theorem sum_sm {xs ws : List Int} {R : List Nat} (hv : Vl xs ws) (hd : Dec (xs.length - 1) R) (h0 : bd (xs.length :: R) 0 = 0) {j : Nat} (hj : j ≤ xs.length) : Sm 336000 40 (sumQ ws (bmq xs ws R) j) := by
  obtain ⟨E, e1, e2, e3⟩ := (sum_ends hv hd h0 R.length (Nat.le_refl _)).2 j (by rw [bd_cons_eq]; exact hj)
  have h8 := hv.n8
  have hb := sumQ_bd (ws := ws) (F := bmq xs ws R) j fun t ht => by
    have hw := hv.w t (by omega)
    have hx := hv.x t (by omega)
    have h3 := (bmq_d hv hd h0 (j := t) (by omega)).2
    have x1 : (-30 : Rat) ≤ (gi xs t : Rat) := Rat.intCast_le_intCast.2 hx.1
    have x2 : (gi xs t : Rat) ≤ 30 := Rat.intCast_le_intCast.2 hx.2
    exact ⟨by grind, by grind, by omega, by omega⟩
  obtain ⟨s1, s2, s3⟩ := e3.sm2 (by omega) hb.1 hb.2
  have k : 1050 * (j : Int) * E ≤ 8400 * 40 := Int.mul_le_mul (by omega) e2 (by omega) (by omega)
  exact ⟨by omega, by omega, by omega⟩
theorem sum_all {xs ws : List Int} {R : List Nat} (hv : Vl xs ws) (hd : Dec (xs.length - 1) R) (h0 : bd (xs.length :: R) 0 = 0) : sumQ ws (bmq xs ws R) xs.length = (wsum xs ws 0 xs.length : Rat) := by
  have h := (sum_ends hv hd h0 R.length (Nat.le_refl _)).1
  rw [bd_cons_eq] at h
  exact h

end Go.Proofs.Ytcmbfkdhfdiamaa
