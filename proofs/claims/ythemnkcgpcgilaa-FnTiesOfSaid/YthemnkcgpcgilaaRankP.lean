/- Ranks, ties and their sum; the plain reckoning. No walk here. -/
import Derived.Test.YthemnkcgpcgilaaNeg
import Derived.Test.YthemnkcgpcgilaaTies
namespace Go.Proofs.Ythemnkcgpcgilaa
open Go.RowKit

/-- Twice the rank of v, as far as the first k numbers tell. -/
def rkI (xs : List Int) (v : Int) (k : Nat) : Nat := 1 + 2 * cpI (fun x => decide (x < v)) xs k + cpI (fun x => decide (x = v)) xs k
theorem rkI_le (xs : List Int) (v : Int) (k : Nat) : rkI xs v k ≤ 1 + 3 * k := by
  have h1 := cpI_le (fun x => decide (x < v)) xs k
  have h2 := cpI_le (fun x => decide (x = v)) xs k
  unfold rkI
  omega
theorem rkI_step (xs : List Int) (v : Int) {k : Nat} (h : k < xs.length) : rkI xs v (k + 1) = rkI xs v k + (2 * (decide (gi xs k < v)).toNat + (decide (gi xs k = v)).toNat) := by
  unfold rkI
  rw [cpI_step _ h, cpI_step _ h]
  omega
theorem cp_lt (xs : List Int) {v v' : Int} (h : v < v') : xs.countP (fun x => decide (x < v)) + xs.countP (fun x => decide (x = v)) ≤ xs.countP (fun x => decide (x < v')) := by
  induction xs with
  | nil => simp
  | cons a xs ih =>
    simp only [List.countP_cons, decide_eq_true_eq]
    split <;> split <;> split <;> omega
theorem rk_lt {xs : List Int} {v v' : Int} (h : v < v') (hv : v ∈ xs) : rkI xs v xs.length < rkI xs v' xs.length := by
  have h1 := cp_lt xs h
  have h2 : 0 < xs.countP (fun x => decide (x = v)) := List.countP_pos_iff.2 ⟨v, hv, by simp⟩
  unfold rkI cpI
  rw [List.take_length]
  omega
theorem rk_eq {xs : List Int} {v v' : Int} (hv : v ∈ xs) (hv' : v' ∈ xs) : rkI xs v xs.length = rkI xs v' xs.length ↔ v = v' := by
  constructor
  · intro h
    rcases Int.lt_trichotomy v v' with h1 | h1 | h1
    · have := rk_lt h1 hv; omega
    · exact h1
    · have := rk_lt h1 hv'; omega
  · rintro rfl; rfl
theorem gi_mem {xs : List Int} {k : Nat} (h : k < xs.length) : gi xs k ∈ xs := by rw [gi_eq h]; exact List.getElem_mem h
/-- Twice the ranks. -/
def rnkV (xs : List Int) : List Int := tabI (fun i => (rkI xs (gi xs i) xs.length : Int)) xs.length
theorem rnkV_length (xs : List Int) : (rnkV xs).length = xs.length := tabI_length _ _
theorem gi_rnkV {xs : List Int} {k : Nat} (h : k < xs.length) : gi (rnkV xs) k = (rkI xs (gi xs k) xs.length : Int) := gi_tabI h
theorem rnk_same {xs : List Int} {i k : Nat} (hi : i < xs.length) (hk : k < xs.length) : (gi (rnkV xs) i == gi (rnkV xs) k) = (gi xs i == gi xs k) := by
  rw [gi_rnkV hi, gi_rnkV hk]
  have := rk_eq (gi_mem hi) (gi_mem hk)
  rw [Bool.eq_iff_iff, beq_iff_eq, beq_iff_eq, ← this]
  omega

/-- One of the first k numbers is the i-th one. -/
def eqB (xs : List Int) (i : Nat) : Nat → Bool
  | 0 => false
  | k + 1 => eqB xs i k || (gi xs i == gi xs k)
/-- Two of the first i numbers are the same. -/
def smB (xs : List Int) : Nat → Bool
  | 0 => false
  | i + 1 => smB xs i || eqB xs i i
theorem eqB_iff (xs : List Int) (i : Nat) : ∀ k, eqB xs i k = true ↔ ∃ j, j < k ∧ gi xs i = gi xs j
  | 0 => by simp [eqB]
  | k + 1 => by
    rw [eqB, Bool.or_eq_true, eqB_iff xs i k, beq_iff_eq]
    constructor
    · rintro (⟨j, h1, h2⟩ | h)
      · exact ⟨j, by omega, h2⟩
      · exact ⟨k, by omega, h⟩
    · rintro ⟨j, h1, h2⟩
      by_cases e : j = k
      · subst e; exact .inr h2
      · exact .inl ⟨j, by omega, h2⟩
theorem smB_iff (xs : List Int) : ∀ i, smB xs i = true ↔ ∃ a j, j < a ∧ a < i ∧ gi xs a = gi xs j
  | 0 => by simp [smB]
  | i + 1 => by
    rw [smB, Bool.or_eq_true, smB_iff xs i, eqB_iff]
    constructor
    · rintro (⟨a, j, h1, h2, h3⟩ | ⟨j, h1, h2⟩)
      · exact ⟨a, j, h1, by omega, h3⟩
      · exact ⟨i, j, h1, by omega, h2⟩
    · rintro ⟨a, j, h1, h2, h3⟩
      by_cases e : a = i
      · subst e; exact .inr ⟨j, h1, h3⟩
      · exact .inl ⟨a, j, h1, by omega, h3⟩
theorem tieS_pos {xs : List Int} : ∀ m, 0 < (tieS xs m).length ↔ ∃ j, j < m ∧ 1 < cntI xs ((j : Int) - 200)
  | 0 => by simp [tieS]
  | m + 1 => by
    rw [tieS, List.length_append]
    have ih := tieS_pos (xs := xs) m
    by_cases h : 1 < cntI xs ((m : Int) - 200)
    · rw [if_pos h]
      refine ⟨fun _ => ⟨m, by omega, h⟩, fun _ => by simp⟩
    · rw [if_neg h]
      simp only [List.length_nil, Nat.add_zero]
      rw [ih]
      constructor
      · rintro ⟨j, h1, h2⟩; exact ⟨j, by omega, h2⟩
      · rintro ⟨j, h1, h2⟩
        by_cases e : j = m
        · subst e; exact absurd h2 h
        · exact ⟨j, by omega, h2⟩
theorem sm_ties {xs : List Int} (hd : Vd xs) : smB xs xs.length = decide (0 < (tieS xs 401).length) := by
  rw [Bool.eq_iff_iff, decide_eq_true_eq, tieS_pos, smB_iff]
  constructor
  · rintro ⟨a, j, h1, h2, h3⟩
    have hx := hd.x a h2
    refine ⟨(gi xs a + 200).toNat, by omega, ?_⟩
    rw [show (((gi xs a + 200).toNat : Nat) : Int) - 200 = gi xs a by omega]
    unfold cntI
    have c1 : 0 < (xs.take a).count (gi xs a) := List.count_pos_iff.2 (by
      rw [List.mem_take_iff_getElem]
      exact ⟨j, by omega, by rw [h3, gi_eq (by omega)]⟩)
    have c2 : 0 < (xs.drop a).count (gi xs a) := List.count_pos_iff.2 (by
      rw [List.mem_drop_iff_getElem]
      exact ⟨0, by omega, by rw [gi_eq h2]; simp⟩)
    rw [← List.take_append_drop a xs, List.count_append] 
    simp only [List.take_append_drop]
    omega
  · rintro ⟨j, h1, h2⟩
    refine Classical.byContradiction fun hno => ?_
    have hnd : xs.Nodup := by
      unfold List.Nodup
      rw [List.pairwise_iff_getElem]
      intro a b ha hb hab he
      exact hno ⟨b, a, hab, hb, by rw [gi_eq ha, gi_eq hb, he]⟩
    have := List.nodup_iff_count.1 hnd ((j : Int) - 200)
    unfold cntI at h2
    omega

/-- The sum of the first k numbers. -/
def totS (xs : List Int) : Nat → Int
  | 0 => 0
  | k + 1 => totS xs k + gi xs k
theorem totS_append (A B : List Int) : ∀ k, k ≤ B.length → totS (A ++ B) (A.length + k) = totS (A ++ B) A.length + totS B k
  | 0, _ => by simp [totS]
  | k + 1, h => by
    rw [← Nat.add_assoc, totS, totS_append A B k (by omega), totS]
    have : gi (A ++ B) (A.length + k) = gi B k := by
      rw [gi_eq (by rw [List.length_append]; omega), gi_eq (by omega)]
      simp
    rw [this]
    omega
theorem totS_left (A B : List Int) : ∀ k, k ≤ A.length → totS (A ++ B) k = totS A k
  | 0, _ => rfl
  | k + 1, h => by
    rw [totS, totS, totS_left A B k (by omega), gi_eq (by rw [List.length_append]; omega), gi_eq (by omega), List.getElem_append_left]
theorem totS_snoc (A : List Int) (x : Int) : totS (A ++ [x]) (A ++ [x]).length = totS A A.length + x := by
  rw [List.length_append, List.length_singleton, totS_append A [x] 1 (by simp), totS_left A [x] _ (Nat.le_refl _)]
  simp [totS, gi]
theorem totS_in {xs : List Int} {B : Int} (h : ∀ x ∈ xs, 0 ≤ x ∧ x ≤ B) : ∀ k, k ≤ xs.length → 0 ≤ totS xs k ∧ totS xs k ≤ k * B
  | 0, _ => by simp [totS]
  | k + 1, hk => by
    have h1 := totS_in h k (by omega)
    have h2 := h (gi xs k) (gi_mem (by omega))
    rw [totS, Int.natCast_add, Int.add_mul]
    omega
theorem cp_next (xs : List Int) (v : Int) : xs.countP (fun x => decide (x < v + 1)) = xs.countP (fun x => decide (x < v)) + xs.count v := by
  induction xs with
  | nil => simp
  | cons a xs ih =>
    simp only [List.countP_cons, List.count_cons, decide_eq_true_eq, beq_iff_eq]
    split <;> split <;> split <;> omega
theorem ties_total (xs : List Int) : ∀ m, totS (tieS xs m) (tieS xs m).length ≤ xs.countP (fun x => decide (x < (m : Int) - 200))
  | 0 => by simp [tieS, totS]
  | m + 1 => by
    have ih := ties_total xs m
    have hc := cp_next xs ((m : Int) - 200)
    rw [show (m : Int) - 200 + 1 = ((m + 1 : Nat) : Int) - 200 by omega] at hc
    rw [tieS]
    by_cases h : 1 < cntI xs ((m : Int) - 200)
    · rw [if_pos h, totS_snoc]
      unfold cntI
      omega
    · rw [if_neg h, List.append_nil]
      omega
theorem ties_total_le (xs : List Int) : totS (tieS xs 401) (tieS xs 401).length ≤ xs.length := by
  have h1 := ties_total xs 401
  have h2 : xs.countP (fun x => decide (x < ((401 : Nat) : Int) - 200)) ≤ xs.length := List.countP_le_length
  omega
theorem tieS_in (xs : List Int) : ∀ m, ∀ x ∈ tieS xs m, 0 ≤ x ∧ x ≤ xs.length
  | 0, x, h => by cases h
  | m + 1, x, h => by
    rw [tieS] at h
    rcases List.mem_append.1 h with h | h
    · exact tieS_in xs m x h
    · split at h
      · rw [List.mem_singleton] at h
        subst h
        have : cntI xs ((m : Int) - 200) ≤ xs.length := List.count_le_length
        omega
      · cases h

end Go.Proofs.Ythemnkcgpcgilaa
