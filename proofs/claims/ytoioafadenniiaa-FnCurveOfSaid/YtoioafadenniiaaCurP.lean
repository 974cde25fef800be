/- Plain facts: differences divided again and again. No walk here. -/
import Derived.Test.YtoioafadenniiaaStripP
import Derived.Test.YtoioafadenniiaaOwnF
namespace Go.Proofs.Ytoioafadenniiaa

/-- The differences of k + 1 points from i on, divided. -/
def dd (xs ys : List Int) : Nat → Nat → Rat
  | 0, i => qd (gi ys i) 1
  | k + 1, i => (dd xs ys k (i + 1) - dd xs ys k i) * qd 1 (gi xs (i + (k + 1)) - gi xs i)
/-- All numbers differ. -/
def Df (xs : List Int) : Prop := ∀ i j, i < j → j < xs.length → gi xs i ≠ gi xs j
theorem qd_subd (a b c d : Int) (hb : b ≠ 0) (hd : d ≠ 0) : qd a b - qd c d = qd (a * d - c * b) (b * d) := by
  rw [Rat.sub_eq_add_neg, show -qd c d = qd (-c) d from by unfold qd; rw [Rat.neg_divInt], qd_add _ _ _ _ hb hd]
  congr 1
  grind
theorem dd_one {xs ys : List Int} {i : Nat} : dd xs ys 1 i = qd (gi ys (i + 1) - gi ys i) (gi xs (i + 1) - gi xs i) := by
  show (qd (gi ys (i + 1)) 1 - qd (gi ys i) 1) * qd 1 (gi xs (i + (0 + 1)) - gi xs i) = _
  rw [← qd_sub1, qd_mul, Int.mul_one, Int.one_mul]
theorem dd_two {xs ys : List Int} (hd : Df xs) {i : Nat} (hi : i + 2 < xs.length) :
    dd xs ys 2 i = qd ((gi ys (i + 2) - gi ys (i + 1)) * (gi xs (i + 1) - gi xs i) - (gi ys (i + 1) - gi ys i) * (gi xs (i + 2) - gi xs (i + 1))) ((gi xs (i + 2) - gi xs (i + 1)) * (gi xs (i + 1) - gi xs i) * (gi xs (i + 2) - gi xs i)) := by
  have h1 := hd i (i + 1) (by omega) (by omega)
  have h2 := hd (i + 1) (i + 2) (by omega) (by omega)
  show (dd xs ys 1 (i + 1) - dd xs ys 1 i) * qd 1 (gi xs (i + (1 + 1)) - gi xs i) = _
  rw [dd_one, dd_one, show i + 1 + 1 = i + 2 by omega, qd_subd _ _ _ _ (by omega) (by omega), qd_mul, Int.mul_one]
theorem mul_ne {a b : Int} (ha : a ≠ 0) (hb : b ≠ 0) : a * b ≠ 0 := Int.mul_ne_zero ha hb
/-- The upper number of four points, and the lower one. -/
theorem dd_three {xs ys : List Int} (hd : Df xs) {i : Nat} (hi : i + 3 < xs.length) {K K' : Int}
    (hK : (gi ys (i + 2) - gi ys (i + 1)) * (gi xs (i + 1) - gi xs i) - (gi ys (i + 1) - gi ys i) * (gi xs (i + 2) - gi xs (i + 1)) = K)
    (hK' : (gi ys (i + 3) - gi ys (i + 2)) * (gi xs (i + 2) - gi xs (i + 1)) - (gi ys (i + 2) - gi ys (i + 1)) * (gi xs (i + 3) - gi xs (i + 2)) = K') :
    dd xs ys 3 i = qd (K' * ((gi xs (i + 1) - gi xs i) * (gi xs (i + 2) - gi xs i)) - K * ((gi xs (i + 3) - gi xs (i + 2)) * (gi xs (i + 3) - gi xs (i + 1))))
      (((gi xs (i + 1) - gi xs i) * (gi xs (i + 2) - gi xs i)) * ((gi xs (i + 3) - gi xs (i + 2)) * (gi xs (i + 3) - gi xs (i + 1))) * ((gi xs (i + 2) - gi xs (i + 1)) * (gi xs (i + 3) - gi xs i))) := by
  have h1 := hd i (i + 1) (by omega) (by omega)
  have h2 := hd (i + 1) (i + 2) (by omega) (by omega)
  have h3 := hd (i + 2) (i + 3) (by omega) (by omega)
  have h4 := hd i (i + 2) (by omega) (by omega)
  have h5 := hd (i + 1) (i + 3) (by omega) (by omega)
  have h6 := hd i (i + 3) (by omega) (by omega)
  show (dd xs ys 2 (i + 1) - dd xs ys 2 i) * qd 1 (gi xs (i + (2 + 1)) - gi xs i) = _
  rw [dd_two hd (by omega), dd_two hd (by omega), show i + 1 + 1 = i + 2 by omega, show i + 1 + 2 = i + 3 by omega, show i + (2 + 1) = i + 3 by omega, hK, hK']
  obtain ⟨a, ha⟩ : ∃ a, gi xs (i + 1) - gi xs i = a := ⟨_, rfl⟩
  obtain ⟨b, hb⟩ : ∃ a, gi xs (i + 2) - gi xs (i + 1) = a := ⟨_, rfl⟩
  obtain ⟨c, hc⟩ : ∃ a, gi xs (i + 3) - gi xs (i + 2) = a := ⟨_, rfl⟩
  obtain ⟨d, hd'⟩ : ∃ a, gi xs (i + 2) - gi xs i = a := ⟨_, rfl⟩
  obtain ⟨e, he⟩ : ∃ a, gi xs (i + 3) - gi xs (i + 1) = a := ⟨_, rfl⟩
  obtain ⟨f, hf⟩ : ∃ a, gi xs (i + 3) - gi xs i = a := ⟨_, rfl⟩
  have na : a ≠ 0 := by omega
  have nb : b ≠ 0 := by omega
  have nc : c ≠ 0 := by omega
  have nd : d ≠ 0 := by omega
  have ne : e ≠ 0 := by omega
  have nf : f ≠ 0 := by omega
  rw [ha, hb, hc, hd', he, hf]
  rw [qd_subd _ _ _ _ (mul_ne (mul_ne nc nb) ne) (mul_ne (mul_ne nb na) nd), qd_mul, Int.mul_one]
  rw [qd_eq (mul_ne (mul_ne (mul_ne (mul_ne nc nb) ne) (mul_ne (mul_ne nb na) nd)) nf) (mul_ne (mul_ne (mul_ne na nd) (mul_ne nc ne)) (mul_ne nb nf))]
  grind
theorem mul_24 {x y A B : Int} (hx : -A ≤ x ∧ x ≤ A) (hy : -B ≤ y ∧ y ≤ B) {C : Int} (hC : A * B = C) : -C ≤ x * y ∧ x * y ≤ C := hC ▸ mul_bd hx hy
/-- A fraction of whole numbers, whatever the sign below. -/
theorem dd_sm {xs ys : List Int} (hp : Pl xs ys 5) (hd : Df xs) : ∀ k i, k ≤ 3 → i + k < xs.length → Sm 1327104 191102976 (dd xs ys k i) := by
  have dx : ∀ i j, i < xs.length → j < xs.length → -24 ≤ gi xs i - gi xs j ∧ gi xs i - gi xs j ≤ 24 := fun i j hi hj => by
    have := hp.x i hi; have := hp.x j hj; omega
  have dy : ∀ i j, i < xs.length → j < xs.length → -24 ≤ gi ys i - gi ys j ∧ gi ys i - gi ys j ≤ 24 := fun i j hi hj => by
    have := hp.y i hi; have := hp.y j hj; omega
  have k2 : ∀ i, i + 2 < xs.length → -1152 ≤ (gi ys (i + 2) - gi ys (i + 1)) * (gi xs (i + 1) - gi xs i) - (gi ys (i + 1) - gi ys i) * (gi xs (i + 2) - gi xs (i + 1)) ∧
      (gi ys (i + 2) - gi ys (i + 1)) * (gi xs (i + 1) - gi xs i) - (gi ys (i + 1) - gi ys i) * (gi xs (i + 2) - gi xs (i + 1)) ≤ 1152 := fun i hi => by
    have m1 := mul_24 (dy (i + 2) (i + 1) (by omega) (by omega)) (dx (i + 1) i (by omega) (by omega)) (C := 576) rfl
    have m2 := mul_24 (dy (i + 1) i (by omega) (by omega)) (dx (i + 2) (i + 1) (by omega) (by omega)) (C := 576) rfl
    omega
  intro k i hk hi
  match k, hk with
  | 0, _ =>
    have := hp.y i (by omega)
    exact sm_qd (by omega) (by omega) (by omega) (by omega)
  | 1, _ =>
    rw [dd_one]
    have h1 := hd i (i + 1) (by omega) (by omega)
    have := dx (i + 1) i (by omega) (by omega)
    have := dy (i + 1) i (by omega) (by omega)
    exact sm_slope (by omega) (by omega) (by omega)
  | 2, _ =>
    have h1 := hd i (i + 1) (by omega) (by omega)
    have h2 := hd (i + 1) (i + 2) (by omega) (by omega)
    have h4 := hd i (i + 2) (by omega) (by omega)
    have hk2 := k2 i hi
    have m1 := mul_24 (dx (i + 2) (i + 1) (by omega) (by omega)) (dx (i + 1) i (by omega) (by omega)) (C := 576) rfl
    have m2 := mul_24 m1 (dx (i + 2) i (by omega) (by omega)) (C := 13824) rfl
    rw [dd_two hd hi]
    exact sm_slope (mul_ne (mul_ne (by omega) (by omega)) (by omega)) (by omega) (by omega)
  | 3, _ =>
    have h1 := hd i (i + 1) (by omega) (by omega)
    have h2 := hd (i + 1) (i + 2) (by omega) (by omega)
    have h3 := hd (i + 2) (i + 3) (by omega) (by omega)
    have h4 := hd i (i + 2) (by omega) (by omega)
    have h5 := hd (i + 1) (i + 3) (by omega) (by omega)
    have h6 := hd i (i + 3) (by omega) (by omega)
    have a1 := k2 i (by omega)
    have a2 := k2 (i + 1) (by omega)
    rw [show i + 1 + 2 = i + 3 by omega, show i + 1 + 1 = i + 2 by omega] at a2
    obtain ⟨K, hK⟩ : ∃ K, (gi ys (i + 2) - gi ys (i + 1)) * (gi xs (i + 1) - gi xs i) - (gi ys (i + 1) - gi ys i) * (gi xs (i + 2) - gi xs (i + 1)) = K := ⟨_, rfl⟩
    obtain ⟨K', hK'⟩ : ∃ K, (gi ys (i + 3) - gi ys (i + 2)) * (gi xs (i + 2) - gi xs (i + 1)) - (gi ys (i + 2) - gi ys (i + 1)) * (gi xs (i + 3) - gi xs (i + 2)) = K := ⟨_, rfl⟩
    rw [dd_three hd hi hK hK']
    rw [hK] at a1
    rw [hK'] at a2
    have b1 := mul_24 (dx (i + 1) i (by omega) (by omega)) (dx (i + 2) i (by omega) (by omega)) (C := 576) rfl
    have b2 := mul_24 (dx (i + 3) (i + 2) (by omega) (by omega)) (dx (i + 3) (i + 1) (by omega) (by omega)) (C := 576) rfl
    have b3 := mul_24 (dx (i + 2) (i + 1) (by omega) (by omega)) (dx (i + 3) i (by omega) (by omega)) (C := 576) rfl
    have c1 := mul_24 (A := 1152) (B := 576) a2 b1 (C := 663552) rfl
    have c2 := mul_24 (A := 1152) (B := 576) a1 b2 (C := 663552) rfl
    have c3 := mul_24 b1 b2 (C := 331776) rfl
    have c4 := mul_24 c3 b3 (C := 191102976) rfl
    exact sm_slope (mul_ne (mul_ne (mul_ne (by omega) (by omega)) (mul_ne (by omega) (by omega))) (mul_ne (by omega) (by omega))) (by omega) (by omega)
theorem qd_dv {xs ys : List Int} (hp : Pl xs ys 5) (hd : Df xs) {i j : Nat} (hij : i < j) (hj : j < xs.length) : Sm 1 24 (qd 1 (gi xs j - gi xs i)) := by
  have h1 := hd i j hij hj
  have := hp.x i (by omega)
  have := hp.x j hj
  exact sm_slope (by omega) (by omega) (by omega)

/-- The factors. -/
def cvL (xs ys : List Int) (n : Nat) : List Rat := tab (fun k => dd xs ys k 0) n
/-- The differences of k + 1 points, of which there are m. -/
def nwL (xs ys : List Int) (k m : Nat) : List Rat := tab (fun i => dd xs ys k i) m

def dfB (xs : List Int) : Bool := decide (∀ j, j < xs.length → ∀ i, i < j → gi xs i ≠ gi xs j)
theorem dfB_iff {xs : List Int} : dfB xs = true ↔ Df xs := by
  unfold dfB Df
  rw [decide_eq_true_eq]
  exact ⟨fun h i j h1 h2 => h j h2 i h1, fun h j h1 i h2 => h i j h2 h1⟩
def crB (xs ys : List Int) : Bool := plB xs ys 5 && dfB xs
def crV (xs ys : List Int) : List Rat := if crB xs ys then cvL xs ys xs.length else []
theorem crV_le {xs ys : List Int} (hl : xs.length ≤ 1048576) : (crV xs ys).length ≤ 1048576 := by
  unfold crV
  split
  · unfold cvL; rw [tab_length]; exact hl
  · exact Nat.zero_le _

end Go.Proofs.Ytoioafadenniiaa
