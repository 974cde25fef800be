/- laws.greatest. -/
import Derived.Test.YtjkadlmlkcanpaaToInt
namespace Go.Proofs.Ytjkadlmlkcanpaa
open Go.RowKit

/-- The greatest of the numbers up to the k-th. -/
def mxI (xs : List Int) : Nat → Int
  | 0 => gi xs 0
  | k + 1 => if mxI xs k < gi xs (k + 1) then gi xs (k + 1) else mxI xs k
theorem mxI_ge (xs : List Int) : ∀ k j, j ≤ k → gi xs j ≤ mxI xs k
  | 0, j, h => by have : j = 0 := by omega
                  subst this; exact Int.le_refl _
  | k + 1, j, h => by
    rw [mxI]
    by_cases e : j = k + 1
    · subst e; split <;> omega
    · have := mxI_ge xs k j (by omega)
      split <;> omega
theorem mxI_in (xs : List Int) {B : Int} (h : ∀ k, k < xs.length → -B ≤ gi xs k ∧ gi xs k ≤ B) : ∀ k, k < xs.length → -B ≤ mxI xs k ∧ mxI xs k ≤ B
  | 0, h0 => h 0 h0
  | k + 1, hk => by
    have h1 := mxI_in xs h k (by omega)
    have h2 := h (k + 1) hk
    rw [mxI]
    split <;> omega
theorem mxI_at (xs : List Int) : ∀ k, ∃ j, j ≤ k ∧ mxI xs k = gi xs j
  | 0 => ⟨0, Nat.le_refl _, rfl⟩
  | k + 1 => by
    obtain ⟨j, h1, h2⟩ := mxI_at xs k
    rw [mxI]
    split
    · exact ⟨k + 1, Nat.le_refl _, rfl⟩
    · exact ⟨j, by omega, h2⟩

set_option maxHeartbeats 1000000 in
theorem greatest_any (b o c : Nat) (xs : List Int) (w : World) (h : RowI w b o xs) (hl : xs.length ≤ 1048576) (h1 : 1 ≤ xs.length) :
    Calls Try.prog 28 #[.slice (some ⟨b, o, none⟩) xs.length c] w fun e w' => e = .returned (.int .i64 (mxI xs (xs.length - 1))) ∧ w = w' := by
  have H := Lib.hid h
  have y0 := h.cell 0 (by omega)
  have q0 : (0 : Int) < (xs.length : Int) := by omega
  rw [Nat.add_zero] at y0
  clear h
  go_enter Try.func28, Try.ntmps28
  go_wp2_with fail
  go_loop [3, 4] (fun v3 v4 => ∃ k : Nat, v4 = .int .i64 ((k + 1 : Nat) : Int) ∧ k + 1 ≤ xs.length ∧ v3 = .int .i64 (mxI xs k)) (fun _ v4 => xs.length + 1 - (intOf v4).toNat)
  case atStart => exact ⟨0, rfl, by omega, rfl⟩
  case round =>
    obtain ⟨k, rfl, hk, rfl⟩ := hrel
    by_cases hlt : k + 1 < xs.length
    · have y1 := H.out.cell (k + 1) hlt
      have q1 : IntKind.i64.wrap (((k + 1 : Nat) : Int) + 1) = ((k + 1 + 1 : Nat) : Int) := by rw [IntWalk.i64_in _ (by omega)]; omega
      have q2 : ((k + 1 : Nat) : Int) < (xs.length : Int) := by omega
      have s1 : mxI xs (k + 1) = if mxI xs k < gi xs (k + 1) then gi xs (k + 1) else mxI xs k := rfl
      obtain ⟨x, hx⟩ : ∃ x, gi xs (k + 1) = x := ⟨_, rfl⟩
      obtain ⟨m, hm⟩ : ∃ m, mxI xs k = m := ⟨_, rfl⟩
      rw [hx] at y1 s1
      rw [hm] at s1 ⊢
      obtain ⟨r, hr⟩ : ∃ r, (if m < x then x else m) = r := ⟨_, rfl⟩
      rw [hr] at s1
      have hmx : max m x = r := by rw [← hr]; split <;> omega
      have HMX := Lib.hid hmx
      have S1 := Lib.hid s1
      have HR := Lib.hid hr
      clear s1 hx hm hr hmx
      go_wp2_with fail
      go_round
      case rel => exact ⟨k + 1, by go_num, by omega, by rw [S1.out]; first | rw [HMX.out] | rw [HR.out]⟩
      case measure => simp [intOf]; omega
    · have e : k = xs.length - 1 := by omega
      subst e
      have q2 : ¬ ((xs.length - 1 + 1 : Nat) : Int) < (xs.length : Int) := by omega
      go_wp2_with fail
      go_ret
      exact ⟨rfl, rfl⟩

end Go.Proofs.Ytjkadlmlkcanpaa
