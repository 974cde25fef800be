/- Plain facts: the strip by threes, as the greatest of what a predicate holds of. No program here. -/
import Derived.Test.YtoioafadenniiaaLineL
namespace Go.Proofs.Ytoioafadenniiaa

theorem sm_add {A B C D : Int} {p q : Rat} (hp : Sm A B p) (hq : Sm C D q) : Sm (A * D + C * B) (B * D) (p + q) := by
  have h := sm_mul hp hq
  have d1 := dn_pos p
  have d2 := dn_pos q
  have m := Int.mul_pos d1 d2
  have n1 := abs_mul_le (up p) (dn q) (dn q) (by omega) (by omega)
  have n2 := abs_mul_le (up q) (dn p) (dn p) (by omega) (by omega)
  have e : p + q = qd (up p * dn q + up q * dn p) (dn p * dn q) := by rw [← qd_add _ _ _ _ (by omega) (by omega), qd_up_dn, qd_up_dn]
  rw [e]
  exact sm_qd m (by omega) (by omega) h.1
theorem sm_neg {A B : Int} {q : Rat} (h : Sm A B q) : Sm A B (-q) := ⟨by rw [up_neg]; have := h.2.1; omega, by rw [up_neg]; have := h.1; omega, by rw [dn_neg]; exact h.2.2⟩
theorem sm_sub {A B C D : Int} {p q : Rat} (hp : Sm A B p) (hq : Sm C D q) : Sm (A * D + C * B) (B * D) (p - q) := by
  rw [Rat.sub_eq_add_neg]
  exact sm_add hp (sm_neg hq)
theorem sm_int {z M : Int} (h1 : -M ≤ z) (h2 : z ≤ M) : Sm M 1 (qd z 1) := ⟨by rw [up_qd]; omega, by rw [up_qd]; omega, by rw [dn_qd]; omega⟩
/-- A slope of whole numbers. -/
theorem sm_slope {a b A B : Int} (h0 : b ≠ 0) (h1 : -A ≤ a ∧ a ≤ A) (h2 : -B ≤ b ∧ b ≤ B) : Sm A B (qd a b) := by
  rcases Int.lt_or_gt_of_ne h0 with h | h
  · rw [show qd a b = qd (-a) (-b) from (qd_eq (by omega) (by omega)).2 (by grind)]
    exact sm_qd (by omega) (by omega) (by omega) (by omega)
  · exact sm_qd (by omega) (by omega) (by omega) (by omega)

/-- The height at x_j on the line through i and k; how far j is from it, a half of it; a half of how far i and k are apart. -/
def slR (xs ys : List Int) (i k : Nat) : Rat := qd (gi ys i - gi ys k) (gi xs i - gi xs k)
def atR (xs ys : List Int) (i k j : Nat) : Rat := qd (gi ys i) 1 + slR xs ys i k * qd (gi xs j - gi xs i) 1
def dvH (xs ys : List Int) (i k j : Nat) : Rat := szR (qd (gi ys j) 1 - atR xs ys i k j) * qd 1 2
def smH (ys : List Int) (i k : Nat) : Rat := szR (qd (gi ys i - gi ys k) 1) * qd 1 2
def Btw (xs : List Int) (i k j : Nat) : Prop := (gi xs i ≤ gi xs j ∧ gi xs j ≤ gi xs k) ∨ (gi xs k ≤ gi xs j ∧ gi xs j ≤ gi xs i)
def StR (xs ys : List Int) (q : Rat) : Prop :=
  q = 0 ∨ (∃ i k, i < xs.length ∧ k < xs.length ∧ gi xs i = gi xs k ∧ q = smH ys i k) ∨ ∃ i k j, i < xs.length ∧ k < xs.length ∧ j < xs.length ∧ gi xs i ≠ gi xs k ∧ Btw xs i k j ∧ q = dvH xs ys i k j
/-- The greatest. -/
def Top (R : Rat → Prop) (m : Rat) : Prop := R m ∧ ∀ q, R q → q ≤ m
theorem Top.eq {R R' : Rat → Prop} {m m' : Rat} (h : Top R m) (h' : Top R' m') (hR : ∀ q, R q ↔ R' q) : m = m' :=
  Rat.le_antisymm (h'.2 _ ((hR _).1 h.1)) (h.2 _ ((hR _).2 h'.1))

theorem qd_neg2 (a b : Int) (h : b ≠ 0) : qd (-a) (-b) = qd a b := (qd_eq (by omega) h).2 (by grind)
theorem qd_sub1 (a b : Int) : qd (a - b) 1 = qd a 1 - qd b 1 := by rw [qd_i, qd_i, qd_i, Rat.intCast_sub]
theorem slR_comm {xs ys : List Int} {i k : Nat} (h : gi xs i ≠ gi xs k) : slR xs ys i k = slR xs ys k i := by
  unfold slR
  rw [← qd_neg2 (gi ys k - gi ys i) _ (by omega)]
  congr 1 <;> omega
theorem slR_mul {xs ys : List Int} {i k : Nat} (h : gi xs i ≠ gi xs k) : slR xs ys i k * qd (gi xs i - gi xs k) 1 = qd (gi ys i - gi ys k) 1 := by
  unfold slR
  rw [qd_i (gi xs i - gi xs k), qd_den _ _ (by omega), qd_i]
theorem atR_comm {xs ys : List Int} {i k : Nat} (h : gi xs i ≠ gi xs k) (j : Nat) : atR xs ys i k j = atR xs ys k i j := by
  have h1 := slR_mul (ys := ys) h
  have h2 := slR_comm (ys := ys) h
  unfold atR
  rw [← h2]
  rw [qd_sub1] at h1 ⊢
  rw [qd_sub1 (gi ys i)] at h1
  rw [qd_sub1 (gi xs j) (gi xs k)]
  grind
theorem dvH_comm {xs ys : List Int} {i k : Nat} (h : gi xs i ≠ gi xs k) (j : Nat) : dvH xs ys i k j = dvH xs ys k i j := by
  unfold dvH; rw [atR_comm h]
theorem szR_zero : szR 0 = 0 := by unfold szR; split <;> grind
theorem dvH_left {xs ys : List Int} (i k : Nat) : dvH xs ys i k i = 0 := by
  unfold dvH atR
  rw [Int.sub_self, show qd 0 1 = 0 from by rw [qd_i]; rfl]
  rw [show qd (gi ys i) 1 - (qd (gi ys i) 1 + slR xs ys i k * 0) = 0 from by grind, szR_zero]
  grind
theorem dvH_right {xs ys : List Int} {i k : Nat} (h : gi xs i ≠ gi xs k) : dvH xs ys i k k = 0 := by
  rw [dvH_comm h, dvH_left]

/-- In the reference's words: half of how far k is from the line through i and j. -/
theorem three_eq {xs ys : List Int} {i k j : Nat} (h : gi xs i ≠ gi xs j) {sl : Rat} (hs : qd (gi ys j - gi ys i) (gi xs j - gi xs i) = sl) :
    qd (gi ys k) 1 - (sl * qd (gi xs k) 1 + (qd (gi ys i) 1 - (sl * qd (gi xs i) 1 + 0))) = qd (gi ys k) 1 - atR xs ys i j k := by
  have e : sl = slR xs ys i j := by
    rw [slR_comm h]
    exact hs.symm
  unfold atR
  rw [e, qd_sub1]
  grind

theorem dv_sm {xs ys : List Int} (hp : Pl xs ys 7) {i k j : Nat} (hi : i < xs.length) (hk : k < xs.length) (hj : j < xs.length) (h : gi xs i ≠ gi xs k) :
    Sm 24 24 (slR xs ys i k) ∧ Sm 576 24 (slR xs ys i k * qd (gi xs j - gi xs i) 1) ∧ Sm 864 24 (atR xs ys i k j) ∧ Sm 1152 24 (qd (gi ys j) 1 - atR xs ys i k j) ∧ Sm 1152 48 (dvH xs ys i k j) := by
  have a1 := hp.x i hi
  have a2 := hp.x k hk
  have a3 := hp.x j hj
  have b1 := hp.y i hi
  have b2 := hp.y k hk
  have b3 := hp.y j hj
  have s1 : Sm 24 24 (slR xs ys i k) := sm_slope (by omega) (by omega) (by omega)
  have s2 := sm_prod s1 (sm_int (z := gi xs j - gi xs i) (M := 24) (by omega) (by omega))
  have s3 : Sm 576 24 (slR xs ys i k * qd (gi xs j - gi xs i) 1) := s2
  have s4 : Sm 864 24 (atR xs ys i k j) := sm_add (sm_int (z := gi ys i) (M := 12) (by omega) (by omega)) s3
  have s5 : Sm 1152 24 (qd (gi ys j) 1 - atR xs ys i k j) := sm_sub (sm_int (z := gi ys j) (M := 12) (by omega) (by omega)) s4
  exact ⟨s1, s3, s4, s5, sm_prod (sm_sz s5) (sm_qd (n := 1) (d := 2) (A := 1) (B := 2) (by omega) (by omega) (by omega) (by omega))⟩
theorem sm_sm {xs ys : List Int} (hp : Pl xs ys 7) {i k : Nat} (hi : i < xs.length) (hk : k < xs.length) : Sm 24 1 (qd (gi ys i - gi ys k) 1) ∧ Sm 24 2 (smH ys i k) := by
  have b1 := hp.y i hi
  have b2 := hp.y k hk
  have s1 := sm_int (z := gi ys i - gi ys k) (M := 24) (by omega) (by omega)
  exact ⟨s1, sm_prod (sm_sz s1) (sm_qd (n := 1) (d := 2) (A := 1) (B := 2) (by omega) (by omega) (by omega) (by omega))⟩
theorem StR.sm {xs ys : List Int} (hp : Pl xs ys 7) {q : Rat} (h : StR xs ys q) : Sm 1152 48 q := by
  rcases h with rfl | ⟨i, k, hi, hk, _, rfl⟩ | ⟨i, k, j, hi, hk, hj, hne, _, rfl⟩
  · exact ⟨by decide, by decide, by decide⟩
  · obtain ⟨s1, s2, s3⟩ := (sm_sm hp hi hk).2
    exact ⟨by omega, by omega, by omega⟩
  · exact (dv_sm hp hi hk hj hne).2.2.2.2

theorem szR_int (a : Int) : szR (qd a 1) = qd (if a < -a then -a else a) 1 := by
  have h := up_lt_zero (qd a 1)
  rw [up_qd] at h
  unfold szR
  by_cases ha : a < 0
  · rw [if_pos (h.1 ha), if_pos (by omega)]
    unfold qd
    rw [Rat.neg_divInt]
  · rw [if_neg (fun hh => ha (h.2 hh)), if_neg (by omega)]
theorem smH_frac (ys : List Int) (i k : Nat) : qd (if gi ys i - gi ys k < gi ys k - gi ys i then gi ys k - gi ys i else gi ys i - gi ys k) 2 = smH ys i k := by
  unfold smH
  rw [szR_int, qd_mul, Int.mul_one, Int.one_mul, show -(gi ys i - gi ys k) = gi ys k - gi ys i from by omega]

/-- What the pair a, b and all between give is no more than q. -/
def CovP (xs ys : List Int) (a b : Nat) (q : Rat) : Prop :=
  (gi xs a = gi xs b → smH ys a b ≤ q) ∧ ∀ c, c < xs.length → gi xs a < gi xs b → gi xs a ≤ gi xs c → gi xs c ≤ gi xs b → dvH xs ys a b c ≤ q
theorem top_of_cov {xs ys : List Int} {q : Rat} (hq : StR xs ys q) (h0 : 0 ≤ q) (h : ∀ a b, a < xs.length → b < xs.length → CovP xs ys a b q) : Top (StR xs ys) q := by
  refine ⟨hq, fun r hr => ?_⟩
  rcases hr with rfl | ⟨i, k, hi, hk, he, rfl⟩ | ⟨i, k, j, hi, hk, hj, hne, hb, rfl⟩
  · exact h0
  · exact (h i k hi hk).1 he
  · unfold Btw at hb
    rcases Int.lt_or_gt_of_ne hne with hl | hl
    · exact (h i k hi hk).2 j hj hl (by omega) (by omega)
    · rw [dvH_comm hne]
      exact (h k i hk hi).2 j hj hl (by omega) (by omega)
theorem CovP.mono {xs ys : List Int} {a b : Nat} {q r : Rat} (h : CovP xs ys a b q) (hqr : q ≤ r) : CovP xs ys a b r :=
  ⟨fun e => Rat.le_trans (h.1 e) hqr, fun c h1 h2 h3 h4 => Rat.le_trans (h.2 c h1 h2 h3 h4) hqr⟩

end Go.Proofs.Ytoioafadenniiaa
