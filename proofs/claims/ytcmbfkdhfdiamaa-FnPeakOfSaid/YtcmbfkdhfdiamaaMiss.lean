/- What a row that rises misses: the plain reckoning, and how big its numbers grow. No program here. -/
import Derived.Test.YtcmbfkdhfdiamaaAsc
import Derived.Test.YtcmbfkdhfdiamaaTimesQ
namespace Go.Proofs.Ytcmbfkdhfdiamaa
open Go.RowKit

theorem qd_div (n d : Int) : qd n d = (n : Rat) / (d : Rat) := Rat.divInt_eq_div n d
theorem qd_one (n : Int) : qd n 1 = (n : Rat) := by rw [qd_div]; grind
theorem qd_mul_cancel (n d : Int) (h : d ≠ 0) : qd n d * (d : Rat) = (n : Rat) := by
  have : (d : Rat) ≠ 0 := fun e => h (Rat.intCast_eq_zero_iff.1 e)
  rw [qd_div]
  grind

/-- The sum, over all before the one j, of the distance by itself and by the weight. -/
def missQ (xs ws : List Int) (F : Nat → Rat) : Nat → Rat
  | 0 => 0
  | j + 1 => missQ xs ws F j + (F j - (gi xs j : Rat)) * (F j - (gi xs j : Rat)) * (gi ws j : Rat)
def sqsum (xs ws : List Int) (i : Nat) : Nat → Int
  | 0 => 0
  | n + 1 => sqsum xs ws i n + gi xs (i + n) * gi xs (i + n) * gi ws (i + n)

theorem miss_block {xs ws : List Int} {F : Nat → Rat} {lo : Nat} {m : Rat} : ∀ n, (∀ j, j < n → F (lo + j) = m) →
    missQ xs ws F (lo + n) = missQ xs ws F lo + (sqsum xs ws lo n : Rat) - 2 * m * (wsum xs ws lo n : Rat) + m * m * (dsum ws lo n : Rat)
  | 0, _ => by simp [sqsum, wsum, dsum]; grind
  | n + 1, h => by
    have ih := miss_block (xs := xs) (ws := ws) n fun j hj => h j (by omega)
    have h1 := h n (by omega)
    rw [show lo + (n + 1) = lo + n + 1 from rfl, missQ, ih, h1]
    simp only [sqsum, wsum, dsum, Rat.intCast_add, Rat.intCast_mul]
    grind

/-- A whole number when it is multiplied by E. -/
def Dv (q : Rat) (E : Int) : Prop := ∃ z : Int, q * (E : Rat) = (z : Rat)
theorem Dv.zero (E : Int) : Dv 0 E := ⟨0, by simp⟩
theorem Dv.add {a b : Rat} {E : Int} (ha : Dv a E) (hb : Dv b E) : Dv (a + b) E := by
  obtain ⟨x, hx⟩ := ha
  obtain ⟨y, hy⟩ := hb
  exact ⟨x + y, by rw [Rat.intCast_add]; grind⟩
theorem Dv.mul {a : Rat} {E : Int} (ha : Dv a E) (k : Int) : Dv a (E * k) := by
  obtain ⟨x, hx⟩ := ha
  exact ⟨x * k, by rw [Rat.intCast_mul, Rat.intCast_mul]; grind⟩
theorem Dv.mul' {a : Rat} {E : Int} (ha : Dv a E) (k : Int) : Dv a (k * E) := by rw [Int.mul_comm]; exact ha.mul k
theorem Dv.sm {q : Rat} {E M : Int} (h : Dv q E) (hE : 0 < E) (h0 : 0 ≤ q) (h1 : q ≤ (M : Rat)) : Sm (M * E) E q := by
  obtain ⟨z, hz⟩ := h
  have hE' : (E : Rat) ≠ 0 := fun e => by have := Rat.intCast_eq_zero_iff.1 e; omega
  have hEp : (0 : Rat) < (E : Rat) := Rat.intCast_pos.2 hE
  have hq : q = qd z E := by
    rw [qd_div]
    grind
  have hz0 : 0 ≤ z := by
    have : (0 : Rat) ≤ (z : Rat) := by rw [← hz]; exact Rat.mul_nonneg h0 (by grind)
    exact Rat.intCast_nonneg.1 this
  have hz1 : z ≤ M * E := by
    have h2 : (0 : Rat) ≤ ((M : Rat) - q) * (E : Rat) := Rat.mul_nonneg (by grind) (by grind)
    have : (z : Rat) ≤ ((M * E : Int) : Rat) := by rw [Rat.intCast_mul, ← hz]; grind
    exact Rat.intCast_le_intCast.1 this
  rw [hq]
  exact sm_qd hE (by omega) hz1 (Int.le_refl _)

theorem missQ_nonneg {xs ws : List Int} {F : Nat → Rat} : ∀ n, (∀ j, j < n → 0 ≤ gi ws j) → 0 ≤ missQ xs ws F n
  | 0, _ => by simp [missQ]
  | n + 1, h => by
    have ih := missQ_nonneg (xs := xs) (F := F) n fun j hj => h j (by omega)
    have h1 : (0 : Rat) ≤ (gi ws n : Rat) := Rat.intCast_nonneg.2 (h n (by omega))
    have h2 : 0 ≤ (F n - (gi xs n : Rat)) * (F n - (gi xs n : Rat)) := by
      by_cases hs : 0 ≤ F n - (gi xs n : Rat)
      · exact Rat.mul_nonneg hs hs
      · have := Rat.mul_nonneg (a := -(F n - (gi xs n : Rat))) (b := -(F n - (gi xs n : Rat))) (by grind) (by grind)
        grind
    have h3 := Rat.mul_nonneg h2 h1
    simp only [missQ]
    grind
theorem missQ_le {xs ws : List Int} {F : Nat → Rat} : ∀ n, (∀ j, j < n → 0 ≤ gi ws j ∧ gi ws j ≤ 5 ∧ -180 ≤ F j - (gi xs j : Rat) ∧ F j - (gi xs j : Rat) ≤ 180) → missQ xs ws F n ≤ ((162000 * n : Int) : Rat)
  | 0, _ => by simp [missQ]
  | n + 1, h => by
    have ih := missQ_le n fun j hj => h j (by omega)
    obtain ⟨w0, w5, d1, d2⟩ := h n (by omega)
    have h2 : (F n - (gi xs n : Rat)) * (F n - (gi xs n : Rat)) ≤ 32400 := by
      have := Rat.mul_nonneg (a := 180 - (F n - (gi xs n : Rat))) (b := 180 + (F n - (gi xs n : Rat))) (by grind) (by grind)
      grind
    have h3 : (0 : Rat) ≤ (gi ws n : Rat) := Rat.intCast_nonneg.2 w0
    have h4 : (gi ws n : Rat) ≤ 5 := Rat.intCast_le_intCast.2 w5
    have h5 : (F n - (gi xs n : Rat)) * (F n - (gi xs n : Rat)) * (gi ws n : Rat) ≤ 162000 := by
      have k1 := Rat.mul_nonneg (a := 32400 - (F n - (gi xs n : Rat)) * (F n - (gi xs n : Rat))) (b := (gi ws n : Rat)) (by grind) h3
      grind
    have e : ((162000 * ((n + 1 : Nat) : Int) : Int) : Rat) = ((162000 * (n : Int) : Int) : Rat) + 162000 := by
      rw [show (162000 * ((n + 1 : Nat) : Int) : Int) = 162000 * (n : Int) + 162000 from by omega, Rat.intCast_add]
      rfl
    rw [e]
    simp only [missQ]
    grind

theorem five_bd {W : Int} {k : Nat} (h1 : (k : Int) ≤ W) (h2 : W ≤ 5 * (k : Int)) (hk : 2 ≤ k) (hk8 : k ≤ 8) : W * W ≤ ((10 ^ k : Nat) : Int) := by
  have hW : W * W ≤ (5 * (k : Int)) * (5 * (k : Int)) := Int.mul_le_mul h2 h2 (by omega) (by omega)
  have hk' : k = 2 ∨ k = 3 ∨ k = 4 ∨ k = 5 ∨ k = 6 ∨ k = 7 ∨ k = 8 := by omega
  rcases hk' with rfl | rfl | rfl | rfl | rfl | rfl | rfl <;> simp at hW ⊢ <;> omega

theorem mean_d {xs ws : List Int} (hv : Vl xs ws) {lo hi j : Nat} (h1 : lo ≤ j) (h2 : j < hi) (h3 : hi ≤ xs.length) :
    Sm 2400 40 (mq xs ws lo (hi - 1) - (gi xs j : Rat)) ∧ -180 ≤ mq xs ws lo (hi - 1) - (gi xs j : Rat) ∧ mq xs ws lo (hi - 1) - (gi xs j : Rat) ≤ 180 := by
  have b1 := wsum_bd hv lo (hi - 1 + 1 - lo) (by omega)
  have b2 := dsum_bd hv lo (hi - 1 + 1 - lo) (by omega)
  have bx := hv.x j (by omega)
  have h8 := hv.n8
  unfold mq
  obtain ⟨n, hn⟩ : ∃ n, hi - 1 + 1 - lo = n := ⟨_, rfl⟩
  rw [hn] at b1 b2 ⊢
  generalize wsum xs ws lo n = N at *
  generalize dsum ws lo n = W at *
  generalize gi xs j = x at *
  have hWp : 0 < W := by omega
  have hW0 : (W : Rat) ≠ 0 := fun e => by have := Rat.intCast_eq_zero_iff.1 e; omega
  have hWr : (0 : Rat) < (W : Rat) := Rat.intCast_pos.2 hWp
  have e : qd N W - (x : Rat) = qd (N - x * W) W := by
    rw [qd_div, qd_div, Rat.intCast_sub, Rat.intCast_mul]
    grind
  have m1 : -(30 * 40) ≤ x * W ∧ x * W ≤ 30 * 40 := by
    have k : (x * W).natAbs ≤ 30 * 40 := by rw [Int.natAbs_mul]; exact Nat.mul_le_mul (by omega) (by omega)
    omega
  have hc := qd_mul_cancel N W (by omega)
  refine ⟨by rw [e]; exact sm_qd hWp (by omega) (by omega) (by omega), ?_, ?_⟩
  · have k1 : (0 : Rat) ≤ ((N + 150 * W : Int) : Rat) := Rat.intCast_nonneg.2 (by omega)
    rw [Rat.intCast_add, Rat.intCast_mul, ← hc] at k1
    have k2 : (x : Rat) ≤ 30 := Rat.intCast_le_intCast.2 bx.2
    have k3 : (0 : Rat) ≤ qd N W + 150 := by
      have e2 : qd N W + 150 = (qd N W * (W : Rat) + ((150 : Int) : Rat) * (W : Rat)) * (W : Rat)⁻¹ := by
        have : ((150 : Int) : Rat) = 150 := rfl
        grind
      rw [e2]
      exact Rat.mul_nonneg k1 (Rat.le_of_lt (Rat.inv_pos.2 hWr))
    grind
  · have k1 : (0 : Rat) ≤ ((150 * W - N : Int) : Rat) := Rat.intCast_nonneg.2 (by omega)
    rw [Rat.intCast_sub, Rat.intCast_mul, ← hc] at k1
    have k2 : (-30 : Rat) ≤ (x : Rat) := Rat.intCast_le_intCast.2 bx.1
    have k3 : (0 : Rat) ≤ 150 - qd N W := by
      have e2 : 150 - qd N W = (((150 : Int) : Rat) * (W : Rat) - qd N W * (W : Rat)) * (W : Rat)⁻¹ := by
        have : ((150 : Int) : Rat) = 150 := rfl
        grind
      rw [e2]
      exact Rat.mul_nonneg k1 (Rat.le_of_lt (Rat.inv_pos.2 hWr))
    grind

theorem miss_part {xs ws : List Int} {F : Nat → Rat} {lo k n : Nat} {W N : Int} {m : Rat} {E : Int} (hF : ∀ j, j < k → F (lo + j) = m) (hm : m * (W : Rat) = (N : Rat)) (hn : n ≤ k) (h : Dv (missQ xs ws F lo) E) :
    Dv (missQ xs ws F (lo + n)) (E * (W * W)) := by
  rw [miss_block n fun j hj => hF j (by omega)]
  have e : missQ xs ws F lo + (sqsum xs ws lo n : Rat) - 2 * m * (wsum xs ws lo n : Rat) + m * m * (dsum ws lo n : Rat) =
      missQ xs ws F lo + ((sqsum xs ws lo n : Rat) - 2 * m * (wsum xs ws lo n : Rat) + m * m * (dsum ws lo n : Rat)) := by grind
  rw [e]
  refine (h.mul _).add (Dv.mul' ⟨sqsum xs ws lo n * (W * W) - 2 * N * W * wsum xs ws lo n + N * N * dsum ws lo n, ?_⟩ E)
  simp only [Rat.intCast_add, Rat.intCast_sub, Rat.intCast_mul, ← hm]
  have : ((2 : Int) : Rat) = 2 := rfl
  grind
theorem miss_whole {xs ws : List Int} {F : Nat → Rat} {lo k : Nat} {W N : Int} {m : Rat} {E : Int} (hF : ∀ j, j < k → F (lo + j) = m) (hm : m * (W : Rat) = (N : Rat)) (hW : dsum ws lo k = W) (hN : wsum xs ws lo k = N) (h : Dv (missQ xs ws F lo) E) :
    Dv (missQ xs ws F (lo + k)) (E * W) := by
  rw [miss_block k fun j hj => hF j hj, hW, hN]
  have e : missQ xs ws F lo + (sqsum xs ws lo k : Rat) - 2 * m * (N : Rat) + m * m * (W : Rat) =
      missQ xs ws F lo + ((sqsum xs ws lo k : Rat) - 2 * m * (N : Rat) + m * m * (W : Rat)) := by grind
  rw [e]
  refine (h.mul _).add (Dv.mul' ⟨sqsum xs ws lo k * W - N * N, ?_⟩ E)
  simp only [Rat.intCast_sub, Rat.intCast_mul, ← hm]
  grind

theorem miss_ends {xs ws : List Int} {R : List Nat} (hv : Vl xs ws) (hd : Dec (xs.length - 1) R) (h0 : bd (xs.length :: R) 0 = 0) : ∀ i, i ≤ R.length →
    (∃ E : Int, 1 ≤ E ∧ E * E ≤ ((10 ^ (bd (xs.length :: R) i) : Nat) : Int) ∧ Dv (missQ xs ws (bmq xs ws R) (bd (xs.length :: R) i)) E) ∧
    ∀ j, j ≤ bd (xs.length :: R) i → ∃ E : Int, 1 ≤ E ∧ E ≤ 100000000 ∧ Dv (missQ xs ws (bmq xs ws R) j) E
  | 0, _ => by
    rw [h0]
    refine ⟨⟨1, by omega, by simp, Dv.zero 1⟩, fun j hj => ?_⟩
    obtain rfl : j = 0 := by omega
    exact ⟨1, by omega, by omega, Dv.zero 1⟩
  | i + 1, hi => by
    obtain ⟨⟨E, e1, e2, e3⟩, ih⟩ := miss_ends hv hd h0 i (by omega)
    have hn8 := hv.n8
    have hn0 := hv.n0
    have hlh := bd_up hd (by omega) i (by omega)
    have hhb := bd_bound hd (i + 1) hi
    have hF : ∀ j, j < bd (xs.length :: R) (i + 1) - bd (xs.length :: R) i → bmq xs ws R (bd (xs.length :: R) i + j) = mq xs ws (bd (xs.length :: R) i) (bd (xs.length :: R) (i + 1) - 1) :=
      fun j hj => bmq_eq hd (by omega) (by omega) (by omega)
    generalize bd (xs.length :: R) i = lo at *
    generalize bd (xs.length :: R) (i + 1) = hi' at *
    obtain ⟨k, rfl⟩ : ∃ k, hi' = lo + k := ⟨hi' - lo, by omega⟩
    have hk : lo + k - lo = k := by omega
    rw [hk] at hF
    have hb := dsum_bd hv lo k (by omega)
    have hm : mq xs ws lo (lo + k - 1) * ((dsum ws lo k : Int) : Rat) = ((wsum xs ws lo k : Int) : Rat) := by
      unfold mq
      rw [show lo + k - 1 + 1 - lo = k from by omega]
      exact qd_mul_cancel _ _ (by omega)
    by_cases hk1 : k = 1
    · subst hk1
      have hz : missQ xs ws (bmq xs ws R) (lo + 1) = missQ xs ws (bmq xs ws R) lo := by
        have h1 := hF 0 (by omega)
        rw [Nat.add_zero] at h1
        have hw := hv.w lo (by omega)
        have hw0 : (gi ws lo : Rat) ≠ 0 := fun e => by have := Rat.intCast_eq_zero_iff.1 e; omega
        simp only [dsum, wsum, Nat.add_zero, Int.zero_add, Rat.intCast_mul] at hm
        rw [← h1] at hm
        have h2 : bmq xs ws R lo = (gi xs lo : Rat) := by grind
        rw [missQ, h2]
        grind
      have hp : (10 ^ lo : Nat) ≤ 10 ^ (lo + 1) := Nat.pow_le_pow_right (by omega) (by omega)
      have hp8 : (10 ^ lo : Nat) ≤ 10 ^ 8 := Nat.pow_le_pow_right (by omega) (by omega)
      have he : E ≤ E * E := by have := Int.mul_le_mul_of_nonneg_left e1 (show 0 ≤ E by omega); omega
      refine ⟨⟨E, e1, by omega, by rw [hz]; exact e3⟩, fun j hj => ?_⟩
      by_cases hj1 : j ≤ lo
      · exact ih j hj1
      · obtain rfl : j = lo + 1 := by omega
        exact ⟨E, e1, by omega, by rw [hz]; exact e3⟩
    · have h5 := five_bd hb.1 hb.2 (by omega) (by omega)
      generalize hW : dsum ws lo k = W at *
      generalize hN : wsum xs ws lo k = N at *
      generalize hM : mq xs ws lo (lo + k - 1) = m at *
      have hWp : 1 ≤ W := by omega
      have hEW : (E * E) * (W * W) ≤ ((10 ^ (lo + k) : Nat) : Int) := by
        rw [Nat.pow_add, Int.natCast_mul]
        exact Int.mul_le_mul e2 h5 (Int.mul_nonneg (by omega) (by omega)) (Int.natCast_nonneg _)
      have hp8 : (10 ^ (lo + k) : Nat) ≤ 10 ^ 8 := Nat.pow_le_pow_right (by omega) (by omega)
      have he : E ≤ E * E := by have := Int.mul_le_mul_of_nonneg_left e1 (show 0 ≤ E by omega); omega
      have hWW : 1 ≤ W * W := by have := Int.mul_le_mul hWp hWp (by omega) (by omega); omega
      refine ⟨⟨E * W, ?_, ?_, miss_whole hF hm hW hN e3⟩, fun j hj => ?_⟩
      · have := Int.mul_le_mul e1 hWp (by omega) (by omega); omega
      · rw [show E * W * (E * W) = (E * E) * (W * W) from by grind]; exact hEW
      · by_cases hj1 : j ≤ lo
        · exact ih j hj1
        · obtain ⟨n, rfl⟩ : ∃ n, j = lo + n := ⟨j - lo, by omega⟩
          refine ⟨E * (W * W), ?_, ?_, miss_part hF hm (by omega) e3⟩
          · have := Int.mul_le_mul e1 hWW (by omega) (by omega); omega
          · have := Int.mul_le_mul he (Int.le_refl (W * W)) (by omega) (Int.mul_nonneg (by omega) (by omega))
            omega

theorem bd_find {L : List Nat} (h0 : bd L 0 = 0) : ∀ i j, j < bd L i → ∃ t, t < i ∧ bd L t ≤ j ∧ j < bd L (t + 1)
  | 0, j, h => by omega
  | i + 1, j, h => by
    by_cases hj : j < bd L i
    · obtain ⟨t, h1, h2, h3⟩ := bd_find h0 i j hj
      exact ⟨t, by omega, h2, h3⟩
    · exact ⟨i, by omega, by omega, h⟩
theorem bmq_at {xs ws : List Int} {R : List Nat} (hd : Dec (xs.length - 1) R) (h0 : bd (xs.length :: R) 0 = 0) {j : Nat} (hj : j < xs.length) :
    ∃ lo hi, lo ≤ j ∧ j < hi ∧ hi ≤ xs.length ∧ bmq xs ws R j = mq xs ws lo (hi - 1) := by
  obtain ⟨t, h1, h2, h3⟩ := bd_find h0 R.length j (by rw [bd_cons_eq]; exact hj)
  exact ⟨_, _, h2, h3, bd_bound hd _ h1, bmq_eq hd h1 h2 h3⟩
theorem bmq_sm {xs ws : List Int} {R : List Nat} (hv : Vl xs ws) (hd : Dec (xs.length - 1) R) (h0 : bd (xs.length :: R) 0 = 0) {j : Nat} (hj : j < xs.length) : Sm 1200 40 (bmq xs ws R j) := by
  obtain ⟨lo, hi, h1, h2, h3, h4⟩ := bmq_at (ws := ws) hd h0 hj
  rw [h4]
  exact mq_sm hv (by omega) (by omega)
theorem bmq_d {xs ws : List Int} {R : List Nat} (hv : Vl xs ws) (hd : Dec (xs.length - 1) R) (h0 : bd (xs.length :: R) 0 = 0) {j : Nat} (hj : j < xs.length) :
    Sm 2400 40 (bmq xs ws R j - (gi xs j : Rat)) ∧ -180 ≤ bmq xs ws R j - (gi xs j : Rat) ∧ bmq xs ws R j - (gi xs j : Rat) ≤ 180 := by
  obtain ⟨lo, hi, h1, h2, h3, h4⟩ := bmq_at (ws := ws) hd h0 hj
  rw [h4]
  exact mean_d hv h1 h2 h3

/-- All bounds of what the blocks' row misses. -/
theorem miss_sm {xs ws : List Int} {R : List Nat} (hv : Vl xs ws) (hd : Dec (xs.length - 1) R) (h0 : bd (xs.length :: R) 0 = 0) {j : Nat} (hj : j ≤ xs.length) :
    Sm 129600000000000 100000000 (missQ xs ws (bmq xs ws R) j) := by
  obtain ⟨E, e1, e2, e3⟩ := (miss_ends hv hd h0 R.length (Nat.le_refl _)).2 j (by rw [bd_cons_eq]; exact hj)
  have h8 := hv.n8
  have hw : ∀ j, j < xs.length → 0 ≤ gi ws j ∧ gi ws j ≤ 5 ∧ -180 ≤ bmq xs ws R j - (gi xs j : Rat) ∧ bmq xs ws R j - (gi xs j : Rat) ≤ 180 := by
    intro j hj
    have := hv.w j hj
    have h3 := bmq_d hv hd h0 hj
    exact ⟨by omega, by omega, h3.2⟩
  have b1 := missQ_le j (xs := xs) (ws := ws) (F := bmq xs ws R) fun i hi => hw i (by omega)
  have b0 := missQ_nonneg j (xs := xs) (ws := ws) (F := bmq xs ws R) fun i hi => (hw i (by omega)).1
  obtain ⟨s1, s2, s3⟩ := e3.sm (by omega) b0 b1
  have k : 162000 * (j : Int) * E ≤ 1296000 * 100000000 := Int.mul_le_mul (by omega) e2 (by omega) (by omega)
  exact ⟨by omega, by omega, by omega⟩
/-- The whole sum: narrower bounds, for two sums side by side. -/
theorem miss_sm_end {xs ws : List Int} {R : List Nat} (hv : Vl xs ws) (hd : Dec (xs.length - 1) R) (h0 : bd (xs.length :: R) 0 = 0) :
    ∃ E : Int, 1 ≤ E ∧ E * E ≤ ((10 ^ xs.length : Nat) : Int) ∧ Dv (missQ xs ws (bmq xs ws R) xs.length) E ∧ 0 ≤ missQ xs ws (bmq xs ws R) xs.length ∧ missQ xs ws (bmq xs ws R) xs.length ≤ ((162000 * xs.length : Int) : Rat) := by
  obtain ⟨E, e1, e2, e3⟩ := (miss_ends hv hd h0 R.length (Nat.le_refl _)).1
  rw [bd_cons_eq] at e2 e3
  have hw : ∀ j, j < xs.length → 0 ≤ gi ws j ∧ gi ws j ≤ 5 ∧ -180 ≤ bmq xs ws R j - (gi xs j : Rat) ∧ bmq xs ws R j - (gi xs j : Rat) ≤ 180 := by
    intro j hj
    have := hv.w j hj
    have h3 := bmq_d hv hd h0 hj
    exact ⟨by omega, by omega, h3.2⟩
  exact ⟨E, e1, e2, e3, missQ_nonneg _ fun i hi => (hw i hi).1, missQ_le _ fun i hi => hw i hi⟩

end Go.Proofs.Ytcmbfkdhfdiamaa
