/- Plain facts: the best set of centers. No walk here. -/
import Derived.Test.YtclfjnoedcimiaaGaps
import Derived.Test.YtclfjnoedcimiaaOnes
namespace Go.Proofs.Ytclfjnoedcimiaa
open Go.RowKit

theorem gm_in {xss : List (List Int)} (h : Gp xss) {a b : Nat} (ha : a < xss.length) (hb : b < xss.length) : 0 ≤ gm xss a b ∧ gm xss a b ≤ 40 := by
  rcases Nat.lt_trichotomy a b with h1 | h1 | h1
  · have := h.low b a hb h1; omega
  · subst h1; rw [h.diag a ha]; omega
  · have := h.low a b ha h1; omega

/-- The nearest center of the thing a, of the first d things: of the program and of the reference. -/
def nrI (xss : List (List Int)) (s a : Nat) : Nat → Int
  | 0 => 40
  | d + 1 => if s / 2 ^ d % 2 = 1 then (if gm xss a d < nrI xss s a d then gm xss a d else nrI xss s a d) else nrI xss s a d
def nrS (xss : List (List Int)) (s a : Nat) : Nat → Int
  | 0 => -1
  | d + 1 => if s / 2 ^ d % 2 = 1 ∧ (nrS xss s a d < 0 ∨ gm xss a d < nrS xss s a d) then gm xss a d else nrS xss s a d
theorem nrI_in {xss : List (List Int)} (h : Gp xss) {s a : Nat} (ha : a < xss.length) : ∀ d, d ≤ xss.length → 0 ≤ nrI xss s a d ∧ nrI xss s a d ≤ 40
  | 0, _ => by simp [nrI]
  | d + 1, hd => by
    have ih := nrI_in h (s := s) ha d (by omega)
    have hm := gm_in h ha (show d < xss.length by omega)
    rw [nrI]
    split
    · split <;> omega
    · exact ih
theorem nr_same {xss : List (List Int)} (h : Gp xss) {s a : Nat} (ha : a < xss.length) : ∀ d, d ≤ xss.length → (nrS xss s a d = -1 ∧ nrI xss s a d = 40 ∧ ∀ j, j < d → s / 2 ^ j % 2 = 0) ∨ nrS xss s a d = nrI xss s a d
  | 0, _ => .inl ⟨rfl, rfl, fun j hj => absurd hj (Nat.not_lt_zero _)⟩
  | d + 1, hd => by
    have hi := nrI_in h (s := s) ha d (by omega)
    have hm := gm_in h ha (show d < xss.length by omega)
    rw [nrS, nrI]
    by_cases hb : s / 2 ^ d % 2 = 1
    · rw [if_pos hb]
      right
      rcases nr_same h (s := s) ha d (by omega) with ⟨e1, e2, _⟩ | e
      · rw [if_pos ⟨hb, .inl (by omega)⟩, e2]
        split <;> omega
      · rw [e]
        by_cases hl : gm xss a d < nrI xss s a d
        · rw [if_pos ⟨hb, .inr hl⟩, if_pos hl]
        · rw [if_neg (fun hh => hl (by omega)), if_neg hl]
    · rw [if_neg hb, if_neg (fun hh => hb hh.1)]
      rcases nr_same h (s := s) ha d (by omega) with ⟨e1, e2, e3⟩ | e
      · exact .inl ⟨e1, e2, fun j hj => by
          by_cases hjd : j = d
          · subst hjd; omega
          · exact e3 j (by omega)⟩
      · exact .inr e
theorem cnt_zero {s : Nat} : ∀ d, (∀ j, j < d → s / 2 ^ j % 2 = 0) → cntN s d = 0
  | 0, _ => rfl
  | d + 1, h => by rw [cntN, cnt_zero d fun j hj => h j (by omega), h d (by omega)]
theorem nr_eq {xss : List (List Int)} (h : Gp xss) {s a : Nat} (ha : a < xss.length) (hs : 1 ≤ cntN s xss.length) : nrS xss s a xss.length = nrI xss s a xss.length := by
  rcases nr_same h (s := s) ha xss.length (Nat.le_refl _) with ⟨_, _, h3⟩ | e
  · rw [cnt_zero _ h3] at hs; omega
  · exact e
/-- The sum over the first m things. -/
def smI (xss : List (List Int)) (s n : Nat) : Nat → Int
  | 0 => 0
  | m + 1 => smI xss s n m + nrI xss s m n
theorem smI_in {xss : List (List Int)} (h : Gp xss) (s : Nat) : ∀ m, m ≤ xss.length → 0 ≤ smI xss s xss.length m ∧ smI xss s xss.length m ≤ 40 * (m : Int)
  | 0, _ => by simp [smI]
  | m + 1, hm => by
    have ih := smI_in h s m (by omega)
    have := nrI_in h (s := s) (show m < xss.length by omega) xss.length (Nat.le_refl _)
    simp only [smI]
    omega
theorem nrI_mono {xss : List (List Int)} {s s' a : Nat} : ∀ d, (∀ j, j < d → s / 2 ^ j % 2 = 1 → s' / 2 ^ j % 2 = 1) → nrI xss s' a d ≤ nrI xss s a d
  | 0, _ => Int.le_refl _
  | d + 1, h => by
    have ih := nrI_mono (xss := xss) (s := s) (s' := s') (a := a) d fun j hj => h j (by omega)
    have h0 := h d (by omega)
    rw [nrI, nrI]
    split <;> split <;> (try split) <;> (try split) <;> omega
theorem smI_mono {xss : List (List Int)} {s s' n : Nat} (h : ∀ j, j < n → s / 2 ^ j % 2 = 1 → s' / 2 ^ j % 2 = 1) : ∀ m, smI xss s' n m ≤ smI xss s n m
  | 0 => Int.le_refl _
  | m + 1 => by
    have ih := smI_mono (xss := xss) h m
    have := nrI_mono (xss := xss) (a := m) n h
    simp only [smI]
    omega
theorem nrI_self {xss : List (List Int)} {s a : Nat} (hb : s / 2 ^ a % 2 = 1) : ∀ d, a < d → nrI xss s a d ≤ gm xss a a
  | 0, hd => absurd hd (Nat.not_lt_zero _)
  | d + 1, hd => by
    rw [nrI]
    by_cases e : a = d
    · subst e
      rw [if_pos hb]
      split <;> omega
    · have ih := nrI_self (xss := xss) hb d (by omega)
      split
      · split <;> omega
      · exact ih
theorem smI_full {xss : List (List Int)} (h : Gp xss) {s : Nat} (hb : ∀ j, j < xss.length → s / 2 ^ j % 2 = 1) : ∀ m, m ≤ xss.length → smI xss s xss.length m = 0
  | 0, _ => rfl
  | m + 1, hm => by
    have h1 := nrI_self (xss := xss) (hb m (by omega)) xss.length (by omega)
    have h2 := nrI_in h (s := s) (show m < xss.length by omega) xss.length (Nat.le_refl _)
    rw [h.diag m (by omega)] at h1
    rw [smI, smI_full h hb m (by omega)]
    omega

/-- The search over the sets 1 .. m. -/
def stC (xss : List (List Int)) (n k : Nat) (x : Int × Int) (s : Nat) : Int × Int := if cntN s n = k ∧ (x.1 < 0 ∨ smI xss s n n < x.2) then ((s : Int), smI xss s n n) else x
def scC (xss : List (List Int)) (n k : Nat) : Nat → Int × Int
  | 0 => (-1, -1)
  | m + 1 => stC xss n k (scC xss n k m) (m + 1)
theorem scC_is {xss : List (List Int)} (h : Gp xss) (k : Nat) : ∀ m, (scC xss xss.length k m = (-1, -1) ∧ ∀ s, 1 ≤ s → s ≤ m → cntN s xss.length ≠ k) ∨
    ∃ b : Nat, 1 ≤ b ∧ b ≤ m ∧ cntN b xss.length = k ∧ scC xss xss.length k m = ((b : Int), smI xss b xss.length xss.length) ∧ ∀ s, 1 ≤ s → s ≤ m → cntN s xss.length = k → smI xss b xss.length xss.length ≤ smI xss s xss.length xss.length
  | 0 => .inl ⟨rfl, fun s h1 h2 => by omega⟩
  | m + 1 => by
    have hb := smI_in h (m + 1) xss.length (Nat.le_refl _)
    rcases scC_is h k m with ⟨e, hn⟩ | ⟨b, b1, b2, b3, e, hl⟩
    · by_cases hc : cntN (m + 1) xss.length = k
      · refine .inr ⟨m + 1, by omega, by omega, hc, by rw [scC, e, stC, if_pos ⟨hc, .inl (by decide)⟩], fun s h1 h2 h3 => ?_⟩
        by_cases es : s = m + 1
        · subst es; exact Int.le_refl _
        · exact absurd h3 (hn s h1 (by omega))
      · refine .inl ⟨by rw [scC, e, stC, if_neg (fun hh => hc hh.1)], fun s h1 h2 => ?_⟩
        by_cases es : s = m + 1
        · subst es; exact hc
        · exact hn s h1 (by omega)
    · by_cases hc : cntN (m + 1) xss.length = k ∧ smI xss (m + 1) xss.length xss.length < smI xss b xss.length xss.length
      · refine .inr ⟨m + 1, by omega, by omega, hc.1, by rw [scC, e, stC, if_pos ⟨hc.1, .inr hc.2⟩], fun s h1 h2 h3 => ?_⟩
        by_cases es : s = m + 1
        · subst es; exact Int.le_refl _
        · have := hl s h1 (by omega) h3; omega
      · refine .inr ⟨b, b1, by omega, b3, by rw [scC, e, stC, if_neg (fun hh => hc ⟨hh.1, by rcases hh.2 with q | q; (· exact absurd q (by dsimp only; omega)); exact q⟩)], fun s h1 h2 h3 => ?_⟩
        by_cases es : s = m + 1
        · subst es
          have : ¬ smI xss (m + 1) xss.length xss.length < smI xss b xss.length xss.length := fun hh => hc ⟨h3, hh⟩
          omega
        · exact hl s h1 (by omega) h3

theorem cnt6 : ∀ n, n < 7 → ∀ s, s < 2 ^ n → cntN s 6 = cntN s n := by decide +kernel
def supB (s s' n : Nat) : Bool := decide (∀ i, i < n → s / 2 ^ i % 2 = 1 → s' / 2 ^ i % 2 = 1)
def moreB (n s : Nat) : Bool := (List.range 6).any fun j => decide (s + 2 ^ j < 2 ^ n) && (cntN (s + 2 ^ j) n == cntN s n + 1) && supB s (s + 2 ^ j) n
theorem more_all : ∀ n, n < 7 → ∀ s, s < 2 ^ n → cntN s n < n → moreB n s = true := by decide +kernel
theorem set_more (n : Nat) (hn : n < 7) (s : Nat) (hs : s < 2 ^ n) (hc : cntN s n < n) : ∃ s', s' < 2 ^ n ∧ cntN s' n = cntN s n + 1 ∧ ∀ j, j < n → s / 2 ^ j % 2 = 1 → s' / 2 ^ j % 2 = 1 := by
  obtain ⟨j, _, h⟩ := List.any_eq_true.1 (more_all n hn s hs hc)
  simp only [Bool.and_eq_true, decide_eq_true_eq, beq_iff_eq, supB] at h
  exact ⟨s + 2 ^ j, h.1.1, h.1.2, h.2⟩
theorem set_some (n : Nat) (hn : n < 7) (k : Nat) (hk : k < n) : ∃ s, s < 2 ^ n ∧ 1 ≤ s ∧ cntN s n = k + 1 := by
  have key : ∀ n, n < 7 → ∀ k, k < n → 2 ^ (k + 1) - 1 < 2 ^ n ∧ 1 ≤ 2 ^ (k + 1) - 1 ∧ cntN (2 ^ (k + 1) - 1) n = k + 1 := by decide +kernel
  exact ⟨_, key n hn k hk⟩
theorem set_all : ∀ n, n < 7 → ∀ s, s < 2 ^ n → cntN s n = n → ∀ j, j < n → s / 2 ^ j % 2 = 1 := by decide +kernel
theorem cnt_pos : ∀ n, n < 7 → ∀ s, s < 2 ^ n → 1 ≤ cntN s n → 1 ≤ s := by decide +kernel

/-- What both return. -/
def cenV (xss : List (List Int)) (k : Int) : Int × Int := if gpB xss && inB k 1 xss.length then scC xss xss.length k.toNat (2 ^ xss.length - 1) else (-1, -1)
theorem cenV_good {xss : List (List Int)} {k : Nat} (hv : gpB xss = true) (h1 : 1 ≤ k) (h2 : k ≤ xss.length) : ∃ b : Nat, b < 2 ^ xss.length ∧ cntN b xss.length = k ∧ cenV xss k = ((b : Int), smI xss b xss.length xss.length) ∧
    ∀ s, s < 2 ^ xss.length → cntN s xss.length = k → smI xss b xss.length xss.length ≤ smI xss s xss.length xss.length := by
  have h := gp_of hv
  have n6 := h.n6
  have hi : inB (k : Int) 1 xss.length = true := inB_iff.2 (by omega)
  have e : cenV xss k = scC xss xss.length k (2 ^ xss.length - 1) := by unfold cenV; rw [hv, hi]; rfl
  have hp : 0 < 2 ^ xss.length := Nat.pow_pos (by decide)
  rcases scC_is h k (2 ^ xss.length - 1) with ⟨_, hn⟩ | ⟨b, b1, b2, b3, eb, hl⟩
  · obtain ⟨s, s1, s2, s3⟩ := set_some xss.length (by omega) (k - 1) (by omega)
    exact absurd (by omega) (hn s s2 (by omega))
  · exact ⟨b, by omega, b3, by rw [e, eb], fun s hs hc => hl s (cnt_pos xss.length (by omega) s hs (by omega)) (by omega) hc⟩
theorem cenV_bad {xss : List (List Int)} {k : Int} (h : (gpB xss && inB k 1 xss.length) = false) : cenV xss k = (-1, -1) := by unfold cenV; rw [h]; rfl
/-- One more center. -/
theorem cenV_more {xss : List (List Int)} {k : Nat} (hv : gpB xss = true) (h1 : 1 ≤ k) (h2 : k ≤ xss.length) : (cenV xss ((k : Int) + 1)).2 ≤ (cenV xss k).2 ∧ 0 ≤ (cenV xss k).2 ∧ (k = xss.length → (cenV xss k).2 = 0) := by
  have h := gp_of hv
  have n6 := h.n6
  obtain ⟨b, b1, b2, b3, b4⟩ := cenV_good hv h1 h2
  have hb := smI_in h b xss.length (Nat.le_refl _)
  refine ⟨?_, by rw [b3]; exact hb.1, fun e => ?_⟩
  · by_cases hk : k < xss.length
    · obtain ⟨b', c1, c2, c3, c4⟩ := cenV_good (k := k + 1) hv (by omega) (by omega)
      obtain ⟨s, s1, s2, s3⟩ := set_more xss.length (by omega) b b1 (by omega)
      have e1 := c4 s s1 (by omega)
      have e2 := smI_mono (xss := xss) s3 xss.length
      rw [show (k : Int) + 1 = ((k + 1 : Nat) : Int) by omega, c3, b3]
      dsimp only
      omega
    · have : inB ((k : Int) + 1) 1 xss.length = false := by
        cases hh : inB ((k : Int) + 1) 1 xss.length with
        | false => rfl
        | true => have := inB_iff.1 hh; omega
      rw [cenV_bad (by rw [this, Bool.and_false]), b3]
      dsimp only
      omega
  · rw [b3]
    exact smI_full h (set_all xss.length (by omega) b b1 (by omega)) xss.length (Nat.le_refl _)

end Go.Proofs.Ytclfjnoedcimiaa
