/- Plain facts: the line of the least squares, in numbers. No program here. -/
import Derived.Test.YtoioafadenniiaaCloud2
import Derived.Test.YtoioafadenniiaaSm
namespace Go.Proofs.Ytoioafadenniiaa

/-- The sums over the first d. -/
def suN (xs : List Int) : Nat → Int
  | 0 => 0
  | d + 1 => suN xs d + gi xs d
def sqN (xs : List Int) : Nat → Int
  | 0 => 0
  | d + 1 => sqN xs d + gi xs d * gi xs d
def xyN (xs ys : List Int) : Nat → Int
  | 0 => 0
  | d + 1 => xyN xs ys d + gi xs d * gi ys d
theorem mul_bd {x y A B : Int} (hx : -A ≤ x ∧ x ≤ A) (hy : -B ≤ y ∧ y ≤ B) : -(A * B) ≤ x * y ∧ x * y ≤ A * B := by
  have hA : 0 ≤ A := by omega
  have h1 : (x * y).natAbs = x.natAbs * y.natAbs := Int.natAbs_mul x y
  have h2 : ((x * y).natAbs : Int) = (x.natAbs : Int) * (y.natAbs : Int) := by rw [h1, Int.natCast_mul]
  have h3 : (x.natAbs : Int) * (y.natAbs : Int) ≤ A * B := Int.mul_le_mul (by omega) (by omega) (by omega) hA
  omega
theorem suN_bd {xs : List Int} : ∀ d, (∀ k, k < d → -12 ≤ gi xs k ∧ gi xs k ≤ 12) → -(12 * (d : Int)) ≤ suN xs d ∧ suN xs d ≤ 12 * (d : Int)
  | 0, _ => by simp [suN]
  | d + 1, h => by
    have ih := suN_bd d fun k hk => h k (by omega)
    have := h d (by omega)
    simp only [suN]
    omega
theorem sqN_bd {xs : List Int} : ∀ d, (∀ k, k < d → -12 ≤ gi xs k ∧ gi xs k ≤ 12) → 0 ≤ sqN xs d ∧ sqN xs d ≤ 144 * (d : Int)
  | 0, _ => by simp [sqN]
  | d + 1, h => by
    have ih := sqN_bd d fun k hk => h k (by omega)
    have h1 := h d (by omega)
    have h2 := mul_bd h1 h1
    have h3 : 0 ≤ gi xs d * gi xs d := by
      rcases Int.le_total 0 (gi xs d) with h | h
      · exact Int.mul_nonneg h h
      · exact Int.mul_nonneg_of_nonpos_of_nonpos h h
    simp only [sqN]
    omega
theorem xyN_bd {xs ys : List Int} : ∀ d, (∀ k, k < d → -12 ≤ gi xs k ∧ gi xs k ≤ 12) → (∀ k, k < d → -12 ≤ gi ys k ∧ gi ys k ≤ 12) → -(144 * (d : Int)) ≤ xyN xs ys d ∧ xyN xs ys d ≤ 144 * (d : Int)
  | 0, _, _ => by simp [xyN]
  | d + 1, h, h' => by
    have ih := xyN_bd d (fun k hk => h k (by omega)) fun k hk => h' k (by omega)
    have h2 := mul_bd (h d (by omega)) (h' d (by omega))
    simp only [xyN]
    omega
theorem sq_nonneg (a : Int) : 0 ≤ a * a := by
  rcases Int.le_total 0 a with h | h
  · exact Int.mul_nonneg h h
  · exact Int.mul_nonneg_of_nonpos_of_nonpos h h
/-- The squares of how far the first d are from v. -/
theorem sq_apart (xs : List Int) (v : Int) : ∀ d : Nat, 0 ≤ (d : Int) * (v * v) - 2 * v * suN xs d + sqN xs d ∧ ∀ k, k < d → gi xs k ≠ v → 0 < (d : Int) * (v * v) - 2 * v * suN xs d + sqN xs d
  | 0 => ⟨by simp [suN, sqN], fun k hk => absurd hk (Nat.not_lt_zero _)⟩
  | d + 1 => by
    obtain ⟨i1, i2⟩ := sq_apart xs v d
    have h := sq_nonneg (v - gi xs d)
    have e : ((d + 1 : Nat) : Int) * (v * v) - 2 * v * suN xs (d + 1) + sqN xs (d + 1) = ((d : Int) * (v * v) - 2 * v * suN xs d + sqN xs d) + (v - gi xs d) * (v - gi xs d) := by
      simp only [suN, sqN]
      grind
    rw [e]
    refine ⟨by omega, fun k hk hne => ?_⟩
    by_cases hkd : k = d
    · subst hkd
      have : 0 < (v - gi xs k) * (v - gi xs k) := by
        rcases Int.lt_or_gt_of_ne (show v - gi xs k ≠ 0 by omega) with h | h
        · exact Int.mul_pos_of_neg_of_neg h h
        · exact Int.mul_pos h h
      omega
    · have := i2 k (by omega) hne
      omega
theorem sq_big (xs : List Int) : ∀ d : Nat, 0 ≤ (d : Int) * sqN xs d - suN xs d * suN xs d ∧ ∀ k, k < d → gi xs k ≠ gi xs 0 → 0 < (d : Int) * sqN xs d - suN xs d * suN xs d
  | 0 => ⟨by simp [suN], fun k hk => absurd hk (Nat.not_lt_zero _)⟩
  | d + 1 => by
    obtain ⟨i1, i2⟩ := sq_big xs d
    obtain ⟨a1, a2⟩ := sq_apart xs (gi xs d) d
    have e : ((d + 1 : Nat) : Int) * sqN xs (d + 1) - suN xs (d + 1) * suN xs (d + 1) = ((d : Int) * sqN xs d - suN xs d * suN xs d) + ((d : Int) * (gi xs d * gi xs d) - 2 * gi xs d * suN xs d + sqN xs d) := by
      simp only [suN, sqN]
      grind
    rw [e]
    refine ⟨by omega, fun k hk hne => ?_⟩
    by_cases hkd : k = d
    · subst hkd
      by_cases h0 : k = 0
      · subst h0; exact absurd rfl hne
      · have := a2 0 (by omega) (fun h => hne h.symm)
        omega
    · have := i2 k (by omega) hne
      omega

def lnN (xs ys : List Int) : Int := (xs.length : Int) * xyN xs ys xs.length - suN xs xs.length * suN ys xs.length
def lnD (xs : List Int) : Int := (xs.length : Int) * sqN xs xs.length - suN xs xs.length * suN xs xs.length
/-- The slope and the height of the line. -/
def lnA (xs ys : List Int) : Rat := qd (lnN xs ys) (lnD xs)
def lnB (xs ys : List Int) : Rat := (qd (suN ys xs.length) 1 - lnA xs ys * qd (suN xs xs.length) 1) * qd 1 xs.length
structure Cl (xs ys : List Int) : Prop where
  pl : Pl xs ys 7
  wd : wdB xs = true
theorem cl_of {xs ys : List Int} (h : clB xs ys = true) : Cl xs ys := by
  simp only [clB, Bool.and_eq_true] at h
  exact ⟨pl_of (m := 7) h.1, h.2⟩
structure LnB (xs ys : List Int) : Prop where
  d1 : 1 ≤ lnD xs
  d2 : lnD xs ≤ 7056
  n1 : -14112 ≤ lnN xs ys
  n2 : lnN xs ys ≤ 14112
  x1 : -84 ≤ suN xs xs.length
  x2 : suN xs xs.length ≤ 84
  y1 : -84 ≤ suN ys xs.length
  y2 : suN ys xs.length ≤ 84
  q1 : 0 ≤ sqN xs xs.length
  q2 : sqN xs xs.length ≤ 1008
  p1 : -1008 ≤ xyN xs ys xs.length
  p2 : xyN xs ys xs.length ≤ 1008
theorem ln_bd {xs ys : List Int} (h : Cl xs ys) : LnB xs ys := by
  have n0 := h.pl.n0
  have n7 := h.pl.nm
  obtain ⟨k, hk, hne⟩ := wdB_iff.1 h.wd
  have a1 := suN_bd xs.length h.pl.x
  have a2 := suN_bd xs.length h.pl.y
  have a3 := sqN_bd xs.length h.pl.x
  have a4 := xyN_bd xs.length h.pl.x h.pl.y
  have a5 := (sq_big xs xs.length).2 k hk hne
  have m1 := mul_bd (x := (xs.length : Int)) (y := xyN xs ys xs.length) (A := 7) (B := 1008) (by omega) (by omega)
  have m2 := mul_bd (x := suN xs xs.length) (y := suN ys xs.length) (A := 84) (B := 84) (by omega) (by omega)
  have m3 := mul_bd (x := (xs.length : Int)) (y := sqN xs xs.length) (A := 7) (B := 1008) (by omega) (by omega)
  have m4 := sq_nonneg (suN xs xs.length)
  exact ⟨by unfold lnD; omega, by unfold lnD; omega, by unfold lnN; omega, by unfold lnN; omega, by omega, by omega, by omega, by omega, by omega, by omega, by omega, by omega⟩

end Go.Proofs.Ytoioafadenniiaa
