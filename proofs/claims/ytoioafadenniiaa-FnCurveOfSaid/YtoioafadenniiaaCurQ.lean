/- Plain facts: a curve by its factors goes through its points, and is the same from the other end; the distances of four numbers; bounds. No walk here. -/
import Derived.Test.YtoioafadenniiaaCurP
namespace Go.Proofs.Ytoioafadenniiaa

/-- The product of x less the first k numbers from i on. -/
def nw (X : Nat → Rat) (x : Rat) (i : Nat) : Nat → Rat
  | 0 => 1
  | k + 1 => nw X x i k * (x - X (i + k))
theorem nw_front (X : Nat → Rat) (x : Rat) (i : Nat) : ∀ k, nw X x i (k + 1) = (x - X i) * nw X x (i + 1) k
  | 0 => by simp [nw, Rat.mul_comm]
  | k + 1 => by
    rw [nw, nw_front X x i k, nw, show i + 1 + k = i + (k + 1) by omega, Rat.mul_assoc]
/-- The sum of the first k factors times the products. -/
def np (D : Nat → Nat → Rat) (X : Nat → Rat) (x : Rat) (i : Nat) : Nat → Rat
  | 0 => 0
  | k + 1 => np D X x i k + D k i * nw X x i k
/-- D are the differences divided. -/
def Dv (D : Nat → Nat → Rat) (X : Nat → Rat) (m : Nat) : Prop := ∀ k i, i + k + 1 < m → D (k + 1) i * (X (i + k + 1) - X i) = D k (i + 1) - D k i
theorem np_shift {D : Nat → Nat → Rat} {X : Nat → Rat} {m : Nat} (h : Dv D X m) (x : Rat) : ∀ k i, i + k + 1 < m → np D X x (i + 1) (k + 1) - np D X x i (k + 1) = (D k (i + 1) - D k i) * nw X x (i + 1) k
  | 0, i, _ => by simp [np, nw]; grind
  | k + 1, i, hi => by
    have ih := np_shift h x k i (by omega)
    have hd := h k i (by omega)
    have e1 := nw_front X x i k
    have e2 : nw X x (i + 1) (k + 1) = nw X x (i + 1) k * (x - X (i + k + 1)) := by rw [nw, show i + 1 + k = i + k + 1 by omega]
    rw [np, np.eq_2 D X x i (k + 1), e1, e2]
    generalize np D X x (i + 1) (k + 1) = A at *
    generalize np D X x i (k + 1) = B at *
    generalize nw X x (i + 1) k = W at *
    generalize D (k + 1) (i + 1) = d1 at *
    generalize D (k + 1) i = d0 at *
    generalize D k (i + 1) = c1 at *
    generalize D k i = c0 at *
    generalize X (i + k + 1) = y at *
    generalize X i = z at *
    have : A - B = (d0 * (y - z)) * W := by rw [hd, ih]
    grind
theorem np_last {D : Nat → Nat → Rat} {X : Nat → Rat} {m : Nat} (h : Dv D X m) (x : Rat) (k i : Nat) (hi : i + k + 1 < m) : np D X x i (k + 2) = np D X x (i + 1) (k + 1) + D (k + 1) i * nw X x (i + 1) (k + 1) := by
  have ih := np_shift h x k i hi
  have hd := h k i hi
  have e1 := nw_front X x i k
  have e2 : nw X x (i + 1) (k + 1) = nw X x (i + 1) k * (x - X (i + k + 1)) := by rw [nw, show i + 1 + k = i + k + 1 by omega]
  rw [np.eq_2 D X x i (k + 1), e1, e2]
  generalize np D X x (i + 1) (k + 1) = A at *
  generalize np D X x i (k + 1) = B at *
  generalize nw X x (i + 1) k = W at *
  generalize D (k + 1) i = d0 at *
  generalize D k (i + 1) = c1 at *
  generalize D k i = c0 at *
  generalize X (i + k + 1) = y at *
  generalize X i = z at *
  have : A - B = (d0 * (y - z)) * W := by rw [hd, ih]
  grind
theorem nw_zero {X : Nat → Rat} {x : Rat} {i l : Nat} : ∀ k, i ≤ l → l < i + k → x = X l → nw X x i k = 0
  | 0, _, _, _ => by omega
  | k + 1, h1, h2, e => by
    rw [nw]
    by_cases hl : l = i + k
    · rw [e, hl]; grind
    · rw [nw_zero k h1 (by omega) e]; grind
/-- The curve goes through its points. -/
theorem np_at {D : Nat → Nat → Rat} {X : Nat → Rat} {m : Nat} (h : Dv D X m) {x : Rat} {l : Nat} (hx : x = X l) : ∀ k i, i ≤ l → l ≤ i + k → i + k < m → np D X x i (k + 1) = D 0 l
  | 0, i, h1, h2, _ => by
    obtain rfl : i = l := by omega
    simp [np, nw]
    grind
  | k + 1, i, h1, h2, h3 => by
    by_cases hl : l = i + k + 1
    · rw [np_last h x k i (by omega), np_at h hx k (i + 1) (by omega) (by omega) (by omega), nw_zero (k + 1) (show i + 1 ≤ l by omega) (by omega) hx]
      grind
    · rw [np, np_at h hx k i h1 (by omega) (by omega), nw_zero (k + 1) h1 (by omega) hx]
      grind
/-- From the last factor down. -/
def hn (D : Nat → Nat → Rat) (X : Nat → Rat) (x : Rat) (m : Nat) : Nat → Rat
  | 0 => 0
  | j + 1 => hn D X x m j * (x - X (m - (j + 1))) + D (m - (j + 1)) 0
theorem hn_np (D : Nat → Nat → Rat) (X : Nat → Rat) (x : Rat) (m : Nat) : ∀ j, j ≤ m → np D X x 0 (m - j) + nw X x 0 (m - j) * hn D X x m j = np D X x 0 m
  | 0, _ => by simp [hn]; grind
  | j + 1, h => by
    have ih := hn_np D X x m j (by omega)
    obtain ⟨q, hq⟩ : ∃ q, m - j = q + 1 := ⟨m - j - 1, by omega⟩
    rw [hq, np, nw, Nat.zero_add] at ih
    rw [hn, show m - (j + 1) = q by omega]
    grind
theorem hn_all (D : Nat → Nat → Rat) (X : Nat → Rat) (x : Rat) (m : Nat) : hn D X x m m = np D X x 0 m := by
  have := hn_np D X x m m (Nat.le_refl _)
  rw [Nat.sub_self] at this
  simp [np, nw] at this
  grind
/-- From the other end. -/
def nq (D : Nat → Nat → Rat) (X : Nat → Rat) (x : Rat) (e : Nat) : Nat → Rat
  | 0 => 0
  | k + 1 => nq D X x e k + D k (e - k) * nw X x (e - k + 1) k
theorem nq_np {D : Nat → Nat → Rat} {X : Nat → Rat} {m : Nat} (h : Dv D X m) (x : Rat) (e : Nat) (he : e < m) : ∀ k, k ≤ e → np D X x (e - k) (k + 1) = nq D X x e (k + 1)
  | 0, _ => by simp [np, nq, nw]
  | k + 1, hk => by
    have := np_last h x k (e - (k + 1)) (by omega)
    rw [this, show e - (k + 1) + 1 = e - k by omega, nq_np h x e he k (by omega), nq.eq_2 D X x e (k + 1)]
    rw [show e - (k + 1) + 1 = e - k by omega]
theorem nw_turn {X Y : Nat → Rat} {m : Nat} (hY : ∀ i, i < m → Y i = X (m - 1 - i)) (x : Rat) : ∀ k, k ≤ m → nw Y x 0 k = nw X x (m - k) k
  | 0, _ => rfl
  | k + 1, h => by
    rw [nw_front X x (m - (k + 1)) k, nw, nw_turn hY x k (by omega), hY (0 + k) (by omega), show m - (k + 1) + 1 = m - k by omega, show m - 1 - (0 + k) = m - (k + 1) by omega]
    grind
/-- The curve of the points the other way round. -/
theorem np_turn {D E : Nat → Nat → Rat} {X Y : Nat → Rat} {m : Nat} (h : Dv D X m) (hY : ∀ i, i < m → Y i = X (m - 1 - i)) (hE : ∀ k i, i + k < m → E k i = D k (m - 1 - k - i)) (x : Rat) (hm : 0 < m) : np E Y x 0 m = np D X x 0 m := by
  have key : ∀ k, k ≤ m → np E Y x 0 k = nq D X x (m - 1) k := fun k => by
    induction k with
    | zero => intro _; rfl
    | succ k ih =>
      intro hk
      rw [np, ih (by omega), nq, hE k 0 (by omega), nw_turn hY x k (by omega), show m - 1 - k - 0 = m - 1 - k by omega, show m - 1 - k + 1 = m - k by omega]
  rw [key m (Nat.le_refl _)]
  have := nq_np h x (m - 1) (by omega) (m - 1) (Nat.le_refl _)
  rw [Nat.sub_self, show m - 1 + 1 = m by omega] at this
  exact this.symm

def dI (a b : Int) : Nat := (a - b).natAbs
theorem dI_comm (a b : Int) : dI a b = dI b a := by unfold dI; omega
/-- The product of the distances of four numbers. -/
def v4 (a b c d : Int) : Nat := dI a b * dI a c * dI a d * dI b c * dI b d * dI c d
theorem v4_ab (a b c d : Int) : v4 a b c d = v4 b a c d := by
  unfold v4
  rw [dI_comm a b]
  ac_rfl
theorem v4_bc (a b c d : Int) : v4 a b c d = v4 a c b d := by
  unfold v4
  rw [dI_comm b c]
  ac_rfl
theorem v4_cd (a b c d : Int) : v4 a b c d = v4 a b d c := by
  unfold v4
  rw [dI_comm c d]
  ac_rfl
theorem v4_gaps : ∀ p, p < 25 → ∀ q, q < 25 - p → ∀ r, r < 25 - p - q → p * (p + q) * (p + q + r) * q * (q + r) * r ≤ 3398640 := by decide +kernel
theorem v4_asc {a b c d : Int} (h1 : a ≤ b) (h2 : b ≤ c) (h3 : c ≤ d) (h4 : d - a ≤ 24) : v4 a b c d ≤ 3398640 := by
  have := v4_gaps (b - a).toNat (by omega) (c - b).toNat (by omega) (d - c).toNat (by omega)
  unfold v4 dI
  rw [show (a - b).natAbs = (b - a).toNat by omega, show (a - c).natAbs = (b - a).toNat + (c - b).toNat by omega, show (a - d).natAbs = (b - a).toNat + (c - b).toNat + (d - c).toNat by omega,
    show (b - c).natAbs = (c - b).toNat by omega, show (b - d).natAbs = (c - b).toNat + (d - c).toNat by omega, show (c - d).natAbs = (d - c).toNat by omega]
  exact this
def In12 (a : Int) : Prop := -12 ≤ a ∧ a ≤ 12
theorem v4_le3 {a b c d : Int} (ha : In12 a) (_hb : In12 b) (hc : In12 c) (hd : In12 d) (h1 : a ≤ b) (h2 : b ≤ c) : v4 a b c d ≤ 3398640 := by
  unfold In12 at *
  by_cases h3 : c ≤ d
  · exact v4_asc h1 h2 h3 (by omega)
  · rw [v4_cd]
    by_cases h4 : b ≤ d
    · exact v4_asc h1 h4 (by omega) (by omega)
    · rw [v4_bc]
      by_cases h5 : a ≤ d
      · exact v4_asc h5 (by omega) h2 (by omega)
      · rw [v4_ab]
        exact v4_asc (by omega) h1 h2 (by omega)
theorem v4_le2 {a b c d : Int} (ha : In12 a) (hb : In12 b) (hc : In12 c) (hd : In12 d) (h1 : a ≤ b) : v4 a b c d ≤ 3398640 := by
  by_cases h3 : b ≤ c
  · exact v4_le3 ha hb hc hd h1 h3
  · rw [v4_bc]
    by_cases h4 : a ≤ c
    · exact v4_le3 ha hc hb hd h4 (by omega)
    · rw [v4_ab]
      exact v4_le3 hc ha hb hd (by omega) h1
theorem v4_le {a b c d : Int} (ha : In12 a) (hb : In12 b) (hc : In12 c) (hd : In12 d) : v4 a b c d ≤ 3398640 := by
  by_cases h3 : a ≤ b
  · exact v4_le2 ha hb hc hd h3
  · rw [v4_ab]
    exact v4_le2 hb ha hc hd (by omega)

/-! The curve of whole numbers. -/
def xR (xs : List Int) (i : Nat) : Rat := qd (gi xs i) 1
/-- The value, from the last factor down, when j factors have been taken. -/
def cA (xs ys : List Int) (x : Int) (m j : Nat) : Rat := hn (dd xs ys) (xR xs) (qd x 1) m j
theorem cA_zero (xs ys : List Int) (x : Int) (m : Nat) : cA xs ys x m 0 = 0 := rfl
theorem cA_succ (xs ys : List Int) (x : Int) (m j : Nat) : cA xs ys x m (j + 1) = cA xs ys x m j * qd (x - gi xs (m - (j + 1))) 1 + dd xs ys (m - (j + 1)) 0 := by
  show cA xs ys x m j * (qd x 1 - xR xs (m - (j + 1))) + dd xs ys (m - (j + 1)) 0 = _
  unfold xR
  rw [qd_sub1]
theorem dd_dv {xs ys : List Int} (hd : Df xs) : Dv (dd xs ys) (xR xs) xs.length := fun k i hi => by
  have h := hd i (i + (k + 1)) (by omega) (by omega)
  show (dd xs ys k (i + 1) - dd xs ys k i) * qd 1 (gi xs (i + (k + 1)) - gi xs i) * (qd (gi xs (i + k + 1)) 1 - qd (gi xs i) 1) = _
  rw [show i + k + 1 = i + (k + 1) by omega, ← qd_sub1, Rat.mul_assoc, qd_mul, Int.one_mul, Int.mul_one, (qd_eq (a := gi xs (i + (k + 1)) - gi xs i) (c := 1) (d := 1) (by omega) (by omega)).2 (by omega)]
  exact Rat.mul_one _
/-- The curve goes through its points. -/
theorem cA_at {xs ys : List Int} (hd : Df xs) {l : Nat} (hl : l < xs.length) : cA xs ys (gi xs l) xs.length xs.length = qd (gi ys l) 1 := by
  unfold cA
  rw [hn_all]
  have := np_at (D := dd xs ys) (X := xR xs) (dd_dv hd) (x := xR xs l) (l := l) rfl (xs.length - 1) 0 (by omega) (by omega) (by omega)
  rw [show xs.length - 1 + 1 = xs.length by omega] at this
  exact this
theorem dd_turn {xs ys xt yt : List Int} {m : Nat} (h1 : ∀ i, i < m → gi xt i = gi xs (m - 1 - i)) (h2 : ∀ i, i < m → gi yt i = gi ys (m - 1 - i)) (hd : Df xs) (hm : xs.length = m) : ∀ k i, i + k < m → dd xt yt k i = dd xs ys k (m - 1 - k - i)
  | 0, i, h => by
    show qd (gi yt i) 1 = qd (gi ys (m - 1 - 0 - i)) 1
    rw [h2 i (by omega), Nat.sub_zero]
  | k + 1, i, h => by
    show (dd xt yt k (i + 1) - dd xt yt k i) * qd 1 (gi xt (i + (k + 1)) - gi xt i) = (dd xs ys k (m - 1 - (k + 1) - i + 1) - dd xs ys k (m - 1 - (k + 1) - i)) * qd 1 (gi xs (m - 1 - (k + 1) - i + (k + 1)) - gi xs (m - 1 - (k + 1) - i))
    rw [dd_turn h1 h2 hd hm k (i + 1) (by omega), dd_turn h1 h2 hd hm k i (by omega), h1 i (by omega), h1 (i + (k + 1)) (by omega)]
    have hne := hd (m - 1 - (i + (k + 1))) (m - 1 - i) (by omega) (by omega)
    rw [show m - 1 - k - (i + 1) = m - 1 - (i + (k + 1)) by omega, show m - 1 - (k + 1) - i = m - 1 - (i + (k + 1)) by omega, show m - 1 - (i + (k + 1)) + 1 = m - 1 - k - i by omega, show m - 1 - (i + (k + 1)) + (k + 1) = m - 1 - i by omega]
    rw [show qd 1 (gi xs (m - 1 - (i + (k + 1))) - gi xs (m - 1 - i)) = -qd 1 (gi xs (m - 1 - i) - gi xs (m - 1 - (i + (k + 1)))) from by
      rw [show -qd 1 (gi xs (m - 1 - i) - gi xs (m - 1 - (i + (k + 1)))) = qd (-1) (gi xs (m - 1 - i) - gi xs (m - 1 - (i + (k + 1)))) from by unfold qd; rw [Rat.neg_divInt]]
      exact (qd_eq (by omega) (by omega)).2 (by omega)]
    grind
/-- The curve of the points the other way round. -/
theorem cA_turn {xs ys xt yt : List Int} {m : Nat} (h1 : ∀ i, i < m → gi xt i = gi xs (m - 1 - i)) (h2 : ∀ i, i < m → gi yt i = gi ys (m - 1 - i)) (hd : Df xs) (hm : xs.length = m) (h0 : 0 < m) (x : Int) : cA xt yt x m m = cA xs ys x m m := by
  unfold cA
  rw [hn_all, hn_all]
  exact np_turn (D := dd xs ys) (E := dd xt yt) (by have := dd_dv (ys := ys) hd; rwa [hm] at this) (fun i hi => by unfold xR; rw [h1 i hi]) (dd_turn h1 h2 hd hm) _ h0

end Go.Proofs.Ytoioafadenniiaa
