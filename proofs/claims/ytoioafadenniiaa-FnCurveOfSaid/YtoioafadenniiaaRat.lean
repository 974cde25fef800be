/- Plain facts: fractions in lowest terms, as rational numbers. No program here. -/
import Derived.RowKit
namespace Go.Proofs.Ytoioafadenniiaa

/-- The upper and the lower number of a rational number. -/
def up (q : Rat) : Int := q.num
def dn (q : Rat) : Int := (q.den : Int)
/-- The rational number of two whole numbers. -/
def qd (n d : Int) : Rat := Rat.divInt n d

theorem dn_pos (q : Rat) : 0 < dn q := by unfold dn; have := q.den_pos; omega
theorem gcd_tmod (a b : Int) : Int.gcd b (a.tmod b) = Int.gcd a b := by
  simp only [Int.gcd, Int.natAbs_tmod]
  rw [Nat.gcd_comm a.natAbs, Nat.gcd_rec b.natAbs a.natAbs, Nat.gcd_comm]

theorem num_pos {n d : Int} (h : 0 < d) : up (qd n d) = n.tdiv (Int.gcd n d) := by
  unfold up qd; rw [Rat.num_divInt, Int.sign_eq_one_of_pos h, Int.one_mul, Int.gcd_comm, Int.tdiv_eq_ediv_of_dvd (Int.gcd_dvd_left _ _)]
theorem den_pos {n d : Int} (h : 0 < d) : dn (qd n d) = d.tdiv (Int.gcd n d) := by
  unfold dn qd; rw [Rat.den_divInt, if_neg (by omega), Int.gcd_comm, Int.tdiv_eq_ediv_of_dvd (Int.gcd_dvd_right _ _)]
  rw [Int.natCast_ediv, Int.natAbs_of_nonneg (by omega)]
theorem num_neg {n d : Int} (h : d < 0) : up (qd n d) = n.tdiv (-(Int.gcd n d : Int)) := by
  unfold up qd; rw [Rat.num_divInt, Int.sign_eq_neg_one_of_neg h, Int.gcd_comm, Int.tdiv_neg, Int.tdiv_eq_ediv_of_dvd (Int.gcd_dvd_left _ _)]
  rw [Int.neg_one_mul, Int.neg_ediv_of_dvd (Int.gcd_dvd_left _ _)]
theorem den_neg {n d : Int} (h : d < 0) : dn (qd n d) = d.tdiv (-(Int.gcd n d : Int)) := by
  unfold dn qd; rw [Rat.den_divInt, if_neg (by omega), Int.gcd_comm, Int.tdiv_neg, Int.tdiv_eq_ediv_of_dvd (Int.gcd_dvd_right _ _)]
  rw [Int.natCast_ediv, Int.ofNat_natAbs_of_nonpos (by omega), Int.neg_ediv_of_dvd (Int.gcd_dvd_right _ _)]

theorem tdiv_bd (n g B : Int) (h1 : -B ≤ n) (h2 : n ≤ B) : -B ≤ n.tdiv g ∧ n.tdiv g ≤ B := by
  have h := Int.natAbs_tdiv_le_natAbs n g
  omega
theorem tdiv_bd1 (n g : Int) (h : 0 ≤ n) (hg : 1 ≤ g) : 0 ≤ n.tdiv g ∧ n.tdiv g ≤ n := by
  have h := Int.natAbs_tdiv_le_natAbs n g
  have := Int.tdiv_nonneg (a := n) (b := g) (by omega) (by omega)
  omega

theorem gcd_nonneg (a b : Int) : (0 : Int) ≤ (Int.gcd a b : Int) := Int.natCast_nonneg _
theorem gcd_pos {a b : Int} (h : b ≠ 0) : (0 : Int) < (Int.gcd a b : Int) := by
  have := Int.gcd_pos_of_ne_zero_right a h; omega
theorem gcd_le {a b : Int} (h : b ≠ 0) : (Int.gcd a b : Int) ≤ b.natAbs := by
  have := Nat.gcd_le_right a.natAbs (n := b.natAbs) (by omega); unfold Int.gcd; omega

theorem qd_up_dn (q : Rat) : qd (up q) (dn q) = q := Rat.num_divInt_den q
theorem up_qd (n : Int) : up (qd n 1) = n := by unfold up qd; rw [Rat.num_divInt]; simp
theorem dn_qd (n : Int) : dn (qd n 1) = 1 := by unfold dn qd; rw [Rat.den_divInt]; simp
theorem qd_add (a b c d : Int) (hb : b ≠ 0) (hd : d ≠ 0) : qd a b + qd c d = qd (a * d + c * b) (b * d) := Rat.divInt_add_divInt a c hb hd
theorem qd_mul (a b c d : Int) : qd a b * qd c d = qd (a * c) (b * d) := Rat.divInt_mul_divInt a c
theorem up_neg (q : Rat) : up (-q) = - up q := by unfold up; rfl
theorem dn_neg (q : Rat) : dn (-q) = dn q := by unfold dn; rfl
theorem up_lt_zero (q : Rat) : up q < 0 ↔ q < 0 := by unfold up; rw [Rat.lt_iff]; simp
theorem lt_iff (p q : Rat) : p < q ↔ up p * dn q < up q * dn p := Rat.lt_iff p q
theorem up_eq_zero (q : Rat) : up q = 0 ↔ q = 0 := Rat.num_eq_zero
theorem qd_eq {a b c d : Int} (hb : b ≠ 0) (hd : d ≠ 0) : qd a b = qd c d ↔ a * d = c * b := Rat.divInt_eq_divInt_iff hb hd
theorem rat_ext {p q : Rat} (h : up p = up q) (h' : dn p = dn q) : p = q := Rat.ext h (by unfold dn at h'; omega)

theorem abs_mul_le (a D d : Int) (h0 : 0 ≤ D) (h : D ≤ d) : (a * D).natAbs ≤ a.natAbs * d := by
  have : (a * D).natAbs = a.natAbs * D.natAbs := Int.natAbs_mul a D
  rw [this]
  have h2 : (D.natAbs : Int) = D := Int.natAbs_of_nonneg h0
  rw [Int.natCast_mul, h2]
  exact Int.mul_le_mul_of_nonneg_left h (by omega)

theorem div_facts {g d : Int} (hg : 1 ≤ g) (hd : 1 ≤ d) (h : g ∣ d) : 1 ≤ d / g ∧ d / g ≤ d ∧ g * (d / g) = d := by
  have e := Int.mul_ediv_cancel' h
  refine ⟨?_, Int.ediv_le_self _ (by omega), e⟩
  have : 0 < d / g := Int.ediv_pos_of_pos_of_dvd (by omega) (by omega) h
  omega

structure PlusFacts (a b c d g D E : Int) : Prop where
  d1 : 1 ≤ D
  d2 : D ≤ d
  e1 : 1 ≤ E
  e2 : E ≤ b
  gd : g * D = d
  ge : g * E = b
  a1 : -4611686018427387904 ≤ a * D
  a2 : a * D ≤ 4611686018427387904
  c1 : -4611686018427387904 ≤ c * E
  c2 : c * E ≤ 4611686018427387904
  s1 : -4611686018427387904 ≤ a * D + c * E
  s2 : a * D + c * E ≤ 4611686018427387904
  m1 : 1 ≤ E * d
  m2 : E * d ≤ 4611686018427387904

theorem plus_facts (a b c d g : Int) (hb : 1 ≤ b) (hd : 1 ≤ d) (hg : (Int.gcd b d : Int) = g) (h1 : b * d ≤ 4611686018427387904) (h2 : a.natAbs * d + c.natAbs * b ≤ 4611686018427387904) :
    PlusFacts a b c d g (d / g) (b / g) := by
  have g1 : 1 ≤ g := by have := Int.gcd_pos_of_ne_zero_right b (b := d) (by omega); omega
  have k1 := div_facts g1 hd (hg ▸ Int.gcd_dvd_right b d)
  have k2 := div_facts g1 hb (hg ▸ Int.gcd_dvd_left b d)
  have m1 := abs_mul_le a (d / g) d (by omega) k1.2.1
  have m2 := abs_mul_le c (b / g) b (by omega) k2.2.1
  have m3 : b / g * d ≤ b * d := Int.mul_le_mul_of_nonneg_right k2.2.1 (by omega)
  have m4 : 0 < b / g * d := Int.mul_pos (by omega) (by omega)
  have n1 : 0 ≤ (a.natAbs : Int) * d := Int.mul_nonneg (by omega) (by omega)
  have n2 : 0 ≤ (c.natAbs : Int) * b := Int.mul_nonneg (by omega) (by omega)
  exact ⟨k1.1, k1.2.1, k2.1, k2.2.1, k1.2.2, k2.2.2, by omega, by omega, by omega, by omega, by omega, by omega, by omega, by omega⟩

theorem PlusFacts.sum {a b c d g D E : Int} (h : PlusFacts a b c d g D E) (hb : 1 ≤ b) (hd : 1 ≤ d) (_hg : 1 ≤ g) : qd (a * D + c * E) (E * d) = qd a b + qd c d := by
  rw [qd_add _ _ _ _ (by omega) (by omega), qd_eq (by have := h.m1; omega) (by have := Int.mul_pos (show 0 < b by omega) (show 0 < d by omega); omega)]
  have h1 := h.gd
  have h2 := h.ge
  subst h1
  subst h2
  grind

end Go.Proofs.Ytoioafadenniiaa
