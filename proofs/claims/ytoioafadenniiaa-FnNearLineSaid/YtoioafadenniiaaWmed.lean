/- Plain facts: a sum of weighted distances to a number is no less than that to one of the numbers themselves. No program here. -/
import Derived.Test.YtoioafadenniiaaStripP
namespace Go.Proofs.Ytoioafadenniiaa

/-- The sum of a function's values up to n. -/
def rsum (f : Nat → Rat) : Nat → Rat
  | 0 => 0
  | d + 1 => rsum f d + f d
theorem rsum_le {f g : Nat → Rat} : ∀ n, (∀ j, j < n → f j ≤ g j) → rsum f n ≤ rsum g n
  | 0, _ => Rat.le_refl
  | n + 1, h => by
    have h1 := rsum_le n fun j hj => h j (by omega)
    have h2 := h n (by omega)
    simp only [rsum]
    grind
theorem rsum_eq {f g : Nat → Rat} : ∀ n, (∀ j, j < n → f j = g j) → rsum f n = rsum g n
  | 0, _ => rfl
  | n + 1, h => by
    simp only [rsum]
    rw [rsum_eq n fun j hj => h j (by omega), h n (by omega)]
theorem rsum_lin (f g : Nat → Rat) (c : Rat) : ∀ n, rsum (fun j => f j + c * g j) n = rsum f n + c * rsum g n
  | 0 => by simp only [rsum]; grind
  | n + 1 => by
    simp only [rsum]
    rw [rsum_lin f g c n]
    grind
theorem rsum_neg {f : Nat → Rat} : ∀ n, (∀ j, j < n → f j ≤ 0) → rsum f n ≤ 0
  | 0, _ => Rat.le_refl
  | n + 1, h => by
    have h1 := rsum_neg n fun j hj => h j (by omega)
    have h2 := h n (by omega)
    simp only [rsum]
    grind
theorem rsum_some {f : Nat → Rat} : ∀ n, rsum f n < 0 → ∃ j, j < n ∧ f j < 0
  | 0, h => absurd h (by simp only [rsum]; decide)
  | n + 1, h => by
    by_cases hn : f n < 0
    · exact ⟨n, by omega, hn⟩
    · simp only [rsum] at h
      obtain ⟨j, hj, hf⟩ := rsum_some n (show rsum f n < 0 by grind)
      exact ⟨j, by omega, hf⟩

/-- The greatest of those that a predicate holds of. -/
theorem great_of (P : Nat → Prop) (s : Nat → Rat) : ∀ n, (∃ j, j < n ∧ P j) → ∃ a, a < n ∧ P a ∧ ∀ j, j < n → P j → s j ≤ s a
  | 0, h => by obtain ⟨j, hj, _⟩ := h; omega
  | n + 1, h => by
    by_cases h1 : ∃ j, j < n ∧ P j
    · obtain ⟨a, ha, hp, hm⟩ := great_of P s n h1
      by_cases hn : P n ∧ s a < s n
      · refine ⟨n, by omega, hn.1, fun j hj hpj => ?_⟩
        by_cases e : j = n
        · subst e; exact Rat.le_refl
        · have := hm j (by omega) hpj
          have := hn.2
          grind
      · refine ⟨a, by omega, hp, fun j hj hpj => ?_⟩
        by_cases e : j = n
        · subst e
          have : ¬ s a < s j := fun h => hn ⟨hpj, h⟩
          grind
        · exact hm j (by omega) hpj
    · obtain ⟨j, hj, hp⟩ := h
      have e : j = n := by
        rcases Nat.lt_or_ge j n with h | h
        · exact absurd ⟨j, h, hp⟩ h1
        · omega
      subst e
      refine ⟨j, by omega, hp, fun i hi hpi => ?_⟩
      by_cases e : i = j
      · subst e; exact Rat.le_refl
      · exact absurd ⟨i, by omega, hpi⟩ h1
theorem szR_pos {q : Rat} (h : 0 ≤ q) : szR q = q := by unfold szR; rw [if_neg (by grind)]
theorem szR_nonpos {q : Rat} (h : q ≤ 0) : szR q = -q := by
  unfold szR
  split
  · rfl
  · have : q = 0 := by grind
    subst this
    rfl

theorem wmed (w s : Nat → Rat) (n : Nat) (hw : ∀ j, j < n → 0 ≤ w j) (hp : ∃ j, j < n ∧ 0 < w j) (t : Rat) :
    ∃ k, k < n ∧ 0 < w k ∧ rsum (fun j => w j * szR (s j - s k)) n ≤ rsum (fun j => w j * szR (s j - t)) n := by
  obtain ⟨sg, hsg⟩ : ∃ sg : Nat → Rat, sg = fun j => if s j ≤ t then w j else -w j := ⟨_, rfl⟩
  by_cases hc : 0 ≤ rsum sg n ∧ ∃ j, j < n ∧ (0 < w j ∧ s j ≤ t)
  · obtain ⟨hD, hex⟩ := hc
    obtain ⟨a, ha, ⟨hpa, hat⟩, hm⟩ := great_of (fun j => 0 < w j ∧ s j ≤ t) s n hex
    refine ⟨a, ha, hpa, ?_⟩
    have h1 : rsum (fun j => w j * szR (s j - s a)) n ≤ rsum (fun j => w j * szR (s j - t) + (s a - t) * sg j) n := by
      refine rsum_le n fun j hj => ?_
      have h0 := hw j hj
      rw [hsg]
      dsimp only
      by_cases hjt : s j ≤ t
      · rw [if_pos hjt]
        by_cases hz : 0 < w j
        · have := hm j hj ⟨hz, hjt⟩
          rw [szR_nonpos (show s j - s a ≤ 0 by grind), szR_nonpos (show s j - t ≤ 0 by grind)]
          grind
        · have : w j = 0 := by grind
          rw [this]
          grind
      · rw [if_neg hjt, szR_pos (show 0 ≤ s j - s a by grind), szR_pos (show 0 ≤ s j - t by grind)]
        grind
    rw [rsum_lin (fun j => w j * szR (s j - t)) sg (s a - t) n] at h1
    have h2 : (s a - t) * rsum sg n ≤ 0 := by
      have := Rat.mul_nonneg (show 0 ≤ t - s a by grind) hD
      grind
    grind
  · have hD : rsum sg n ≤ 0 := by
      by_cases hx : ∃ j, j < n ∧ (0 < w j ∧ s j ≤ t)
      · have : ¬ 0 ≤ rsum sg n := fun h => hc ⟨h, hx⟩
        grind
      · refine rsum_neg n fun j hj => ?_
        have h0 := hw j hj
        rw [hsg]
        dsimp only
        split
        · rename_i hjt
          have : ¬ 0 < w j := fun h => hx ⟨j, hj, h, hjt⟩
          grind
        · grind
    have hex : ∃ j, j < n ∧ (0 < w j ∧ t < s j) := by
      by_cases hx : ∃ j, j < n ∧ (0 < w j ∧ s j ≤ t)
      · have hneg : rsum sg n < 0 := by
          have : ¬ 0 ≤ rsum sg n := fun h => hc ⟨h, hx⟩
          grind
        obtain ⟨j, hj, hf⟩ := rsum_some n hneg
        have h0 := hw j hj
        rw [hsg] at hf
        dsimp only at hf
        split at hf
        · grind
        · exact ⟨j, hj, by grind, by grind⟩
      · obtain ⟨j, hj, h0⟩ := hp
        exact ⟨j, hj, h0, by
          have : ¬ s j ≤ t := fun h => hx ⟨j, hj, h0, h⟩
          grind⟩
    obtain ⟨b, hb, ⟨hpb, htb⟩, hm⟩ := great_of (fun j => 0 < w j ∧ t < s j) (fun j => -s j) n hex
    refine ⟨b, hb, hpb, ?_⟩
    have h1 : rsum (fun j => w j * szR (s j - s b)) n ≤ rsum (fun j => w j * szR (s j - t) + (s b - t) * sg j) n := by
      refine rsum_le n fun j hj => ?_
      have h0 := hw j hj
      rw [hsg]
      dsimp only
      by_cases hjt : s j ≤ t
      · rw [if_pos hjt, szR_nonpos (show s j - s b ≤ 0 by grind), szR_nonpos (show s j - t ≤ 0 by grind)]
        grind
      · rw [if_neg hjt]
        by_cases hz : 0 < w j
        · have := hm j hj ⟨hz, by grind⟩
          rw [szR_pos (show 0 ≤ s j - s b by grind), szR_pos (show 0 ≤ s j - t by grind)]
          grind
        · have : w j = 0 := by grind
          rw [this]
          grind
    rw [rsum_lin (fun j => w j * szR (s j - t)) sg (s b - t) n] at h1
    have h2 : (s b - t) * rsum sg n ≤ 0 := by
      have := Rat.mul_nonneg (show 0 ≤ s b - t by grind) (show 0 ≤ -rsum sg n by grind)
      grind
    grind

end Go.Proofs.Ytoioafadenniiaa
