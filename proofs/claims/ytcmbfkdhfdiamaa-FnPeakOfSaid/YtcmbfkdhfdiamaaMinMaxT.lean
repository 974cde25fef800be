/- The blocks' means against the means of any numbers side by side. No program here. -/
import Derived.Test.YtcmbfkdhfdiamaaPre
namespace Go.Proofs.Ytcmbfkdhfdiamaa
open Go.RowKit

theorem Pre.at {xs ws : List Int} : ∀ {R : List Nat} {e : Nat}, Pre xs ws R e → ∀ i, i < R.length → ∀ j, 1 ≤ j → j ≤ bd (e :: R) (i + 1) - bd (e :: R) i →
    mn xs ws (bd (e :: R) i) (bd (e :: R) (i + 1) - bd (e :: R) i) ≤ mn xs ws (bd (e :: R) i) j
  | [], _, _, i, h => absurd h (Nat.not_lt_zero _)
  | a :: r, e, hp, i, h => by
    by_cases hi : i < r.length
    · have ih := Pre.at hp.2 i hi
      rw [bd_cons_lt (a := e) (L := a :: r) (i := i) (by simp; omega), bd_cons_lt (a := e) (L := a :: r) (i := i + 1) (by simp; omega)]
      exact ih
    · have hr : i = r.length := by simp at h; omega
      subst hr
      have e1 : bd (e :: a :: r) r.length = a := by rw [bd_cons_lt (by simp)]; exact bd_cons_eq
      have e2 : bd (e :: a :: r) (r.length + 1) = e := bd_cons_eq (a := e) (L := a :: r)
      rw [e1, e2]
      exact hp.1

/-- The blocks of a row: where they begin, and what their means are. -/
structure Bks (xs ws : List Int) (m : Nat) (B : Nat → Nat) : Prop where
  zero : B 0 = 0
  last : B m = xs.length
  up : ∀ i, i < m → B i < B (i + 1)
  inc : ∀ i, i + 1 < m → mn xs ws (B i) (B (i + 1) - B i) < mn xs ws (B (i + 1)) (B (i + 2) - B (i + 1))
  pre : ∀ i, i < m → ∀ j, 1 ≤ j → j ≤ B (i + 1) - B i → mn xs ws (B i) (B (i + 1) - B i) ≤ mn xs ws (B i) j
theorem Bks.le {xs ws : List Int} {m : Nat} {B : Nat → Nat} (h : Bks xs ws m B) : ∀ d i, i + d = m → B i ≤ xs.length
  | 0, i, hi => by rw [show i = m from by omega, h.last]; exact Nat.le_refl _
  | d + 1, i, hi => Nat.le_trans (Nat.le_of_lt (h.up i (by omega))) (h.le d (i + 1) (by omega))
theorem bks_pool {xs ws : List Int} (hv : Vl xs ws) : Bks xs ws (poolR xs ws xs.length).length (bd (xs.length :: poolR xs ws xs.length)) := by
  have hn := hv.n0
  refine ⟨poolR_first hn, bd_cons_eq, fun i hi => bd_up poolR_dec1 (Or.inr hn) i hi, fun i hi => ?_, (poolR_pre hv _ (Nat.le_refl _)).at⟩
  have h1 := (poolR_inc xs ws xs.length).at i hi
  have h2 := bd_up (poolR_dec1 (xs := xs) (ws := ws)) (Or.inr hn) i (by omega)
  have h3 := bd_up (poolR_dec1 (xs := xs) (ws := ws)) (Or.inr hn) (i + 1) hi
  rw [mq_mn, mq_mn] at h1
  generalize bd (xs.length :: poolR xs ws xs.length) i = b0 at *
  generalize bd (xs.length :: poolR xs ws xs.length) (i + 1) = b1 at *
  rw [show i + 1 + 1 = i + 2 from rfl] at h3
  generalize bd (xs.length :: poolR xs ws xs.length) (i + 2) = b2 at *
  rw [show b1 - 1 + 1 - b0 = b1 - b0 from by omega, show b2 - 1 + 1 - b1 = b2 - b1 from by omega] at h1
  exact h1

/-- The end of a block whose beginnings are not less than its mean. -/
theorem suffix_le {xs ws : List Int} (hv : Vl xs ws) {b n : Nat} (hn : 1 ≤ n) (_h0 : 0 ≤ b) (hbn : b + n ≤ xs.length) (hp : ∀ j, 1 ≤ j → j ≤ n → mn xs ws b n ≤ mn xs ws b j) {c : Rat} (hc : mn xs ws b n ≤ c) (s k : Nat) (hk : 1 ≤ k) (hs : b ≤ s) (he : s + k = b + n) :
    (wsum xs ws s k : Rat) ≤ c * (dsum ws s k : Rat) := by
  have p2 := dsum_pos hv hk (i := s) (by omega)
  have e3 := mn_mul hv hn (i := b) (by omega)
  have k2 : 0 ≤ (c - mn xs ws b n) * (dsum ws s k : Rat) := Rat.mul_nonneg (by grind) (by grind)
  by_cases hsb : s = b
  · subst hsb
    obtain rfl : k = n := by omega
    grind
  · obtain ⟨t, rfl⟩ : ∃ t, s = b + t := ⟨s - b, by omega⟩
    obtain rfl : n = t + k := by omega
    have h1 := hp t (by omega) (by omega)
    have e1 := mn_mul hv (i := b) (n := t) (by omega) (by omega)
    have p1 := dsum_pos hv (i := b) (n := t) (by omega) (by omega)
    have k1 : 0 ≤ (mn xs ws b t - mn xs ws b (t + k)) * (dsum ws b t : Rat) := Rat.mul_nonneg (by grind) (by grind)
    rw [wsum_add, dsum_add, Rat.intCast_add, Rat.intCast_add] at e3
    grind

/-- From a block's beginning on: not less than what is at most the block's mean. -/
theorem Bks.from {xs ws : List Int} {m : Nat} {B : Nat → Nat} (hv : Vl xs ws) (h : Bks xs ws m B) {c : Rat} : ∀ d i, i + d = m → 0 < d → c ≤ mn xs ws (B i) (B (i + 1) - B i) → ∀ k, 1 ≤ k → B i + k ≤ xs.length →
    c * (dsum ws (B i) k : Rat) ≤ (wsum xs ws (B i) k : Rat)
  | 0, _, _, h0, _, _, _, _ => absurd h0 (Nat.lt_irrefl _)
  | d + 1, i, hi, _, hc, k, hk, hkn => by
    have hu := h.up i (by omega)
    have hl := h.le d (i + 1) (by omega)
    by_cases hkb : k ≤ B (i + 1) - B i
    · have h1 := h.pre i (by omega) k hk hkb
      have e1 := mn_mul hv hk hkn
      have p1 := dsum_pos hv hk hkn
      have k1 : 0 ≤ (mn xs ws (B i) k - c) * (dsum ws (B i) k : Rat) := Rat.mul_nonneg (by grind) (by grind)
      grind
    · obtain ⟨t, ht⟩ : ∃ t, k = (B (i + 1) - B i) + t := ⟨k - (B (i + 1) - B i), by omega⟩
      have hB : B i + (B (i + 1) - B i) = B (i + 1) := by omega
      have hd : 0 < d := by
        rcases Nat.eq_zero_or_pos d with h0 | h0
        · have := h.last
          rw [show m = i + 1 from by omega] at this
          omega
        · exact h0
      have hinc := h.inc i (by omega)
      have ih := h.from hv d (i + 1) (by omega) hd (c := c) (by grind) t (by omega) (by omega)
      have e1 := mn_mul hv (i := B i) (n := B (i + 1) - B i) (by omega) (by omega)
      have p1 := dsum_pos hv (i := B i) (n := B (i + 1) - B i) (by omega) (by omega)
      have k1 : 0 ≤ (mn xs ws (B i) (B (i + 1) - B i) - c) * (dsum ws (B i) (B (i + 1) - B i) : Rat) := Rat.mul_nonneg (by grind) (by grind)
      rw [ht, wsum_add, dsum_add, hB, Rat.intCast_add, Rat.intCast_add]
      grind

/-- Up to a block's end: not more than what is at least the block's mean. -/
theorem Bks.upto {xs ws : List Int} {m : Nat} {B : Nat → Nat} (hv : Vl xs ws) (h : Bks xs ws m B) {c : Rat} : ∀ i, i < m → mn xs ws (B i) (B (i + 1) - B i) ≤ c → ∀ s k, 1 ≤ k → s + k = B (i + 1) →
    (wsum xs ws s k : Rat) ≤ c * (dsum ws s k : Rat) := by
  intro i
  induction i with
  | zero =>
    intro hi hc s k hk hs
    have hl := h.le (m - 1) 1 (by omega)
    have h0 := h.zero
    rw [h0] at hc
    have hu := h.up 0 hi
    rw [h0] at hu
    simp only [Nat.zero_add, Nat.sub_zero] at hc hs hu
    exact suffix_le hv (by omega) (by omega) (by omega) (fun j h1 h2 => by have := h.pre 0 hi j h1 (by rw [h0]; simpa using h2); rw [h0] at this; simpa using this) hc s k hk (by omega) (by omega)
  | succ i ih =>
    intro hi hc s k hk hs
    have hl := h.le (m - (i + 2)) (i + 2) (by omega)
    have hu := h.up (i + 1) hi
    have hu0 := h.up i (by omega)
    have hpr := h.pre (i + 1) hi
    rw [show i + 1 + 1 = i + 2 from rfl] at hs hc hu hpr
    by_cases hsb : B (i + 1) ≤ s
    · exact suffix_le hv (b := B (i + 1)) (n := B (i + 2) - B (i + 1)) (by omega) (by omega) (by omega) hpr hc s k hk hsb (by omega)
    · obtain ⟨t, ht⟩ : ∃ t, s + t = B (i + 1) := ⟨B (i + 1) - s, by omega⟩
      have hinc := h.inc i hi
      have k1 := ih (by omega) (by grind) s t (by omega) ht
      obtain ⟨n, hn⟩ : ∃ n, B (i + 2) = B (i + 1) + n := ⟨B (i + 2) - B (i + 1), by omega⟩
      rw [hn, show B (i + 1) + n - B (i + 1) = n from by omega] at hc
      have e1 := mn_mul hv (i := B (i + 1)) (n := n) (by omega) (by omega)
      have p1 := dsum_pos hv (i := B (i + 1)) (n := n) (by omega) (by omega)
      have k2 : 0 ≤ (c - mn xs ws (B (i + 1)) n) * (dsum ws (B (i + 1)) n : Rat) := Rat.mul_nonneg (by grind) (by grind)
      have hk2 : k = t + n := by omega
      rw [hk2, wsum_add, dsum_add, ht, Rat.intCast_add, Rat.intCast_add]
      grind

end Go.Proofs.Ytcmbfkdhfdiamaa
