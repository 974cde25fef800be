/- Plain facts: each number below 2 ^ (n - 1) tells a way to cut n numbers, and each way is told. No program here. -/
import Derived.Test.YtfbccnameppikaaCutP
namespace Go.Proofs.Ytfbccnameppikaa

/-- The pieces that are cut off, and where the next one begins, behind i numbers. -/
def ptS (xs : List Int) (set : Nat) : Nat → List (List Int) × Nat
  | 0 => ([], 0)
  | i + 1 => if i + 1 = xs.length ∨ set / 2 ^ i % 2 = 1 then ((ptS xs set i).1 ++ [pc xs (ptS xs set i).2 (i + 1)], i + 1) else ptS xs set i
def ptA (xs : List Int) (set : Nat) : List (List Int) := (ptS xs set xs.length).1
theorem ptS_cut (xs : List Int) (set : Nat) : ∀ i, i ≤ xs.length → (ptS xs set i).2 ≤ i ∧ IsCut (xs.take (ptS xs set i).2) (ptS xs set i).1
  | 0, _ => ⟨Nat.le_refl _, ⟨rfl, fun p hp => by cases hp⟩⟩
  | i + 1, h => by
    have ih := ptS_cut xs set i (by omega)
    rw [ptS]
    split
    · exact ⟨Nat.le_refl _, ih.2.snoc (pc_ne h (by omega)) (take_pc (by omega))⟩
    · exact ⟨by omega, ih.2⟩
theorem ptA_cut {xs : List Int} (h : xs ≠ []) (set : Nat) : IsCut xs (ptA xs set) := by
  have hl := List.length_pos_iff.2 h
  have k := ptS_cut xs set xs.length (Nat.le_refl _)
  have e : (ptS xs set xs.length).2 = xs.length := by
    obtain ⟨m, hm⟩ : ∃ m, xs.length = m + 1 := ⟨xs.length - 1, by omega⟩
    rw [hm, ptS, if_pos (.inl hm.symm)]
  rw [e, List.take_length] at k
  exact k.2
theorem bit_mod (x : Nat) {j k : Nat} (h : j < k) : x % 2 ^ k / 2 ^ j % 2 = x / 2 ^ j % 2 := by
  obtain ⟨t, rfl⟩ : ∃ t, k = j + (t + 1) := ⟨k - j - 1, by omega⟩
  rw [Nat.pow_add, Nat.mod_mul_right_div_self, Nat.pow_succ, Nat.mod_mod_of_dvd _ (Nat.dvd_mul_left _ _)]
theorem mod_mod_pow (x : Nat) {j k : Nat} (h : j ≤ k) : x % 2 ^ k % 2 ^ j = x % 2 ^ j := Nat.mod_mod_of_dvd _ (Nat.pow_dvd_pow 2 h)
theorem ptS_stay {xs : List Int} {set a : Nat} : ∀ d, a + d < xs.length → (∀ j, a ≤ j → j < a + d → set / 2 ^ j % 2 ≠ 1) → ptS xs set (a + d) = ptS xs set a
  | 0, _, _ => rfl
  | d + 1, h, hz => by
    rw [← Nat.add_assoc, ptS, if_neg, ptS_stay d (by omega) fun j h1 h2 => hz j h1 (by omega)]
    rintro (e | e)
    · omega
    · exact hz (a + d) (by omega) (by omega) e
theorem ptS_all (xs : List Int) : ∀ (k : Nat) (L : List (List Int)) (m : Nat), L.length = k → 1 ≤ m → m ≤ xs.length → IsCut (xs.take m) L →
    ∃ s, s < 2 ^ (m - 1) ∧ ∀ set, set % 2 ^ (m - 1) = s → (m = xs.length ∨ set / 2 ^ (m - 1) % 2 = 1) → ptS xs set m = (L, m) := by
  intro k
  induction k with
  | zero =>
    intro L m hk h1 h2 hL
    exfalso
    have hl : (xs.take m).length = m := by simp; omega
    have := hL.join
    rw [List.eq_nil_of_length_eq_zero hk] at this
    rw [← this] at hl
    simp at hl
    omega
  | succ k ih =>
    intro L m hk h1 h2 hL
    obtain ⟨M, a, rfl, ha, hM, hMa⟩ := hL.last h2 (by intro e; rw [e] at hk; cases hk)
    have hMk : M.length = k := by simpa using hk
    obtain ⟨t, rfl⟩ : ∃ t, m = t + 1 := ⟨m - 1, by omega⟩
    rw [Nat.add_sub_cancel]
    by_cases h0 : a = 0
    · subst h0
      have : M = [] := hM.nil_of
      subst this
      refine ⟨0, Nat.pow_pos (by omega), fun set hs hb => ?_⟩
      have e : ptS xs set (0 + t) = ptS xs set 0 := ptS_stay t (by omega) fun j _ hj => by
        have := bit_mod set (show j < t by omega)
        rw [hs, Nat.zero_div] at this
        omega
      rw [Nat.zero_add] at e
      rw [ptS, if_pos hb, e]
      rfl
    · obtain ⟨s, hs1, hs2⟩ := ih M a hMk (by omega) (by omega) hM
      have hp : 2 ^ a = 2 ^ (a - 1) * 2 := by rw [← Nat.pow_succ]; congr 1; omega
      have hle : 2 ^ a ≤ 2 ^ t := Nat.pow_le_pow_right (by omega) (by omega)
      refine ⟨s + 2 ^ (a - 1), by omega, fun set hs hb => ?_⟩
      have b1 : set % 2 ^ (a - 1) = s := by
        rw [← mod_mod_pow set (show a - 1 ≤ t by omega), hs, Nat.add_mod_right, Nat.mod_eq_of_lt hs1]
      have b2 : set / 2 ^ (a - 1) % 2 = 1 := by
        rw [← bit_mod set (show a - 1 < t by omega), hs, Nat.add_div_right _ (Nat.pow_pos (by omega)), Nat.div_eq_of_lt hs1]
      have e : ptS xs set (a + (t - a)) = ptS xs set a := ptS_stay (t - a) (by omega) fun j h3 h4 => by
        have := bit_mod set (show j < t by omega)
        rw [hs, Nat.div_eq_of_lt (by have := Nat.pow_le_pow_right (show 0 < 2 by omega) h3; omega)] at this
        omega
      rw [show a + (t - a) = t by omega, hs2 set b1 (.inr b2)] at e
      rw [ptS, if_pos hb, e]
      rfl
theorem ptA_all {xs : List Int} (h : xs ≠ []) {L : List (List Int)} (hL : IsCut xs L) : ∃ s, s < 2 ^ (xs.length - 1) ∧ ptA xs s = L := by
  have hl := List.length_pos_iff.2 h
  obtain ⟨s, h1, h2⟩ := ptS_all xs L.length L xs.length rfl (by omega) (Nat.le_refl _) (by rwa [List.take_length])
  exact ⟨s, h1, by unfold ptA; rw [h2 s (Nat.mod_eq_of_lt h1) (.inl rfl)]⟩

/-- The program's trying: the best of the sets below s. -/
def trN (c : List Int → Rat) (xs : List Int) (pieces : Nat) : Nat → Rat
  | 0 => c xs
  | s + 1 => if (ptA xs s).length ≤ pieces then mnR (trN c xs pieces s) (cSum c (ptA xs s)) else trN c xs pieces s
theorem trN_got {c : List Int → Rat} {xs : List Int} (h : xs ≠ []) {pieces : Nat} (hp : 1 ≤ pieces) : ∀ s, ∃ L, IsCut xs L ∧ L.length ≤ pieces ∧ cSum c L = trN c xs pieces s
  | 0 => ⟨[xs], .whole h, hp, cSum_one _ _⟩
  | s + 1 => by
    obtain ⟨L, h1, h2, h3⟩ := trN_got (c := c) h hp s
    rw [trN]
    split
    · rename_i hl
      rcases mnR_or (trN c xs pieces s) (cSum c (ptA xs s)) with e | e
      · exact ⟨L, h1, h2, by rw [e, h3]⟩
      · exact ⟨_, ptA_cut h s, hl, e.symm⟩
    · exact ⟨L, h1, h2, h3⟩
theorem trN_le {c : List Int → Rat} {xs : List Int} {pieces : Nat} : ∀ s k, k < s → (ptA xs k).length ≤ pieces → trN c xs pieces s ≤ cSum c (ptA xs k)
  | s + 1, k, h, hl => by
    have m := mnR_le (trN c xs pieces s) (cSum c (ptA xs s))
    rw [trN]
    by_cases e : k = s
    · subst e
      rw [if_pos hl]
      exact m.2
    · have ih := trN_le (c := c) s k (by omega) hl
      split
      · exact Rat.le_trans m.1 ih
      · exact ih
theorem trN_least {c : List Int → Rat} {xs : List Int} (h : xs ≠ []) {pieces : Nat} (hp : 1 ≤ pieces) : Least c xs (fun n => n ≤ pieces) (trN c xs pieces (2 ^ (xs.length - 1))) := by
  refine ⟨trN_got h hp _, fun L hL hl => ?_⟩
  obtain ⟨s, h1, rfl⟩ := ptA_all h hL
  exact trN_le _ s h1 hl

end Go.Proofs.Ytfbccnameppikaa
