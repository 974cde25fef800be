/- The product of fractions, as the product of rational numbers. -/
import Derived.Test.YtoioafadenniiaaTimes
namespace Go.Proofs.Ytoioafadenniiaa
open Go.RowKit

theorem mul_parts (p q : Rat) : up (p * q) = up (qd (up p) (dn q)) * up (qd (up q) (dn p)) ∧ dn (p * q) = dn (qd (up p) (dn q)) * dn (qd (up q) (dn p)) := by
  rw [num_pos (dn_pos q), num_pos (dn_pos p), den_pos (dn_pos q), den_pos (dn_pos p)]
  have e1 : Int.gcd (up p) (dn q) = Nat.gcd p.num.natAbs q.den := by unfold Int.gcd up dn; simp
  have e2 : Int.gcd (up q) (dn p) = Nat.gcd q.num.natAbs p.den := by unfold Int.gcd up dn; simp
  rw [e1, e2]
  constructor
  · show (Rat.mul p q).num = _
    unfold Rat.mul
    simp only [Int.divExact_eq_tdiv]
    rfl
  · show ((Rat.mul p q).den : Int) = _
    unfold Rat.mul
    simp only [Nat.divExact_eq_div]
    unfold dn
    rw [Int.natCast_mul, Int.natCast_ediv, Int.natCast_ediv, Int.mul_comm, Int.tdiv_eq_ediv_of_nonneg (by omega), Int.tdiv_eq_ediv_of_nonneg (by omega)]

theorem times_any (p q r : Rat) (hr : p * q = r) (w : World) (h1 : -4611686018427387904 ≤ up p ∧ up p ≤ 4611686018427387904) (h2 : dn p ≤ 4611686018427387904)
    (h3 : -4611686018427387904 ≤ up q ∧ up q ≤ 4611686018427387904) (h4 : dn q ≤ 4611686018427387904) (h5 : -9223372036854775808 ≤ up r ∧ up r ≤ 9223372036854775807) (h6 : dn r ≤ 9223372036854775807) :
    Calls Try.prog 57 #[.agg #[.int .i64 (up p), .int .i64 (dn p)], .agg #[.int .i64 (up q), .int .i64 (dn q)]] w fun e w' =>
      e = .returned (.agg #[.int .i64 (up r), .int .i64 (dn r)]) ∧ Below w.heap.size w w' := by
  have hp := dn_pos p
  have hq := dn_pos q
  have hrp := dn_pos r
  have hm := mul_parts p q
  rw [hr] at hm
  obtain ⟨m1, m2⟩ := hm
  rw [m1] at h5
  rw [m2] at h6 hrp
  rw [m1, m2]
  exact times_core _ _ _ _ _ _ _ _ w (fun w => frac_any _ _ w h1.1 h1.2 (by omega) h4 (by omega)) (fun w => frac_any _ _ w h3.1 h3.2 (by omega) h2 (by omega)) h5.1 h5.2 (by omega) h6

/-- Small fractions: their product. -/
theorem sm_prod {A B C D : Int} {p q : Rat} (hp : Sm A B p) (hq : Sm C D q) : -(A * C) ≤ up (p * q) ∧ up (p * q) ≤ A * C ∧ dn (p * q) ≤ B * D := by
  obtain ⟨m1, m2⟩ := mul_parts p q
  have hp1 := dn_pos p
  have hq1 := dn_pos q
  obtain ⟨a1, a2, a3⟩ := hp
  obtain ⟨c1, c2, c3⟩ := hq
  have s1 : Sm A D (qd (up p) (dn q)) := sm_qd hq1 a1 a2 c3
  have s2 : Sm C B (qd (up q) (dn p)) := sm_qd hp1 c1 c2 a3
  obtain ⟨a1, a2, a3⟩ := s1
  obtain ⟨c1, c2, c3⟩ := s2
  rw [m1, m2]
  have d1 := dn_pos (qd (up p) (dn q))
  have d2 := dn_pos (qd (up q) (dn p))
  generalize up (qd (up p) (dn q)) = x at *
  generalize up (qd (up q) (dn p)) = y at *
  have k : (x * y).natAbs ≤ (A * C).natAbs := by
    rw [Int.natAbs_mul, Int.natAbs_mul]
    exact Nat.mul_le_mul (by omega) (by omega)
  have hA : 0 ≤ A := by omega
  have hC : 0 ≤ C := by omega
  have k2 : 0 ≤ A * C := Int.mul_nonneg hA hC
  refine ⟨by omega, by omega, ?_⟩
  rw [Int.mul_comm B D]
  exact Int.mul_le_mul a3 c3 (by omega) (by omega)

end Go.Proofs.Ytoioafadenniiaa
