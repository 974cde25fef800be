/- Rational numbers with small upper and lower numbers. No program here. -/
import Derived.Test.YtoioafadenniiaaRat
namespace Go.Proofs.Ytoioafadenniiaa

/-- A rational number with small upper and lower numbers. -/
def Sm (A B : Int) (q : Rat) : Prop := -A ≤ up q ∧ up q ≤ A ∧ dn q ≤ B
theorem sm_qd {n d A B : Int} (hd : 0 < d) (h1 : -A ≤ n) (h2 : n ≤ A) (h3 : d ≤ B) : Sm A B (qd n d) := by
  have g1 := gcd_pos (a := n) (b := d) (by omega)
  unfold Sm
  rw [num_pos hd, den_pos hd]
  have b1 := tdiv_bd n (Int.gcd n d) A h1 h2
  have b2 := tdiv_bd1 d (Int.gcd n d) (by omega) (by omega)
  omega
theorem sm_mul {A B C D : Int} {p q : Rat} (hp : Sm A B p) (hq : Sm C D q) : dn p * dn q ≤ B * D ∧ (up p).natAbs * dn q + (up q).natAbs * dn p ≤ A * D + C * B := by
  have p1 := dn_pos p
  have q1 := dn_pos q
  obtain ⟨a1, a2, a3⟩ := hp
  obtain ⟨c1, c2, c3⟩ := hq
  have k1 : dn p * dn q ≤ B * D := Int.mul_le_mul a3 c3 (by omega) (by omega)
  have k2 : ((up p).natAbs : Int) * dn q ≤ A * D := Int.mul_le_mul (by omega) c3 (by omega) (by omega)
  have k3 : ((up q).natAbs : Int) * dn p ≤ C * B := Int.mul_le_mul (by omega) a3 (by omega) (by omega)
  omega

end Go.Proofs.Ytoioafadenniiaa
