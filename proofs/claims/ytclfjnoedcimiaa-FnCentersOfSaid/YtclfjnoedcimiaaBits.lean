/- spec.power and spec.bit; how the program's shifts read. -/
import Derived.Test.YtclfjnoedcimiaaList
namespace Go.Proofs.Ytclfjnoedcimiaa
open Go.RowKit

set_option maxHeartbeats 1000000 in
theorem power_any (n p : Nat) (w : World) (hn : n ≤ 20) (hp : 2 ^ n = p) :
    Calls Try.prog 39 #[.int .i64 n] w fun e w' => e = .returned (.int .i64 (p : Int)) ∧ w = w' := by
  have HP := Lib.hid hp
  clear hp
  go_enter Try.func39, Try.ntmps39
  go_wp2_with fail
  go_loop [0, 3] (fun v0 v3 => ∃ k m : Nat, k ≤ n ∧ v0 = .int .i64 k ∧ v3 = .int .i64 m ∧ m * 2 ^ k = 2 ^ n) (fun v0 _ => (intOf v0).toNat)
  case atStart => exact ⟨n, 1, Nat.le_refl _, rfl, rfl, by omega⟩
  case round =>
    obtain ⟨k, m, hk, rfl, rfl, hm⟩ := hrel
    have HM := Lib.hid hm
    by_cases hlt : 0 < k
    · obtain ⟨j, rfl⟩ : ∃ j, k = j + 1 := ⟨k - 1, by omega⟩
      have h1 : m * 2 ≤ 1048576 := by
        have e : m * 2 ^ (j + 1) = m * 2 * 2 ^ j := by rw [Nat.pow_succ, Nat.mul_assoc, Nat.mul_comm 2]
        have h2 : m * 2 ≤ m * 2 * 2 ^ j := Nat.le_mul_of_pos_right _ (Nat.pow_pos (by decide))
        have h3 : 2 ^ n ≤ 2 ^ 20 := Nat.pow_le_pow_right (by decide) hn
        have h4 : (2 : Nat) ^ 20 = 1048576 := by decide
        omega
      have q1 : IntKind.i64.wrap (2 * (m : Int)) = ((m * 2 : Nat) : Int) := by rw [IntWalk.i64_in _ (by omega)]; omega
      have q2 : IntKind.i64.wrap (((j + 1 : Nat) : Int) - 1) = (j : Int) := by rw [IntWalk.i64_in _ (by omega)]; omega
      have t : (0 : Int) < ((j + 1 : Nat) : Int) := by omega
      clear hm h1
      go_wp2_with fail
      go_round
      case rel => exact ⟨j, m * 2, by omega, rfl, rfl, by have := HM.out; rw [← this, Nat.pow_succ, Nat.mul_assoc, Nat.mul_comm 2]⟩
      case measure => simp [intOf]
    · have e : k = 0 := by omega
      subst e
      have e2 : m = p := by rw [← HP.out]; simpa using hm
      have HE := Lib.hid e2
      clear hm e2 HM
      go_wp2_with fail
      go_ret
      exact ⟨by rw [HE.out]; rfl, rfl⟩

set_option maxHeartbeats 1000000 in
theorem bit_any (s j : Nat) (w : World) (hj : j ≤ 20) (hs : s ≤ 1048576) :
    Calls Try.prog 40 #[.int .i64 s, .int .i64 j] w fun e w' => e = .returned (.int .i64 ((s / 2 ^ j % 2 : Nat) : Int)) ∧ w = w' := by
  have hp : 0 < 2 ^ j := Nat.pow_pos (by decide)
  obtain ⟨p, hpe⟩ : ∃ p, 2 ^ j = p := ⟨_, rfl⟩
  have C := Lib.hid (power_any j p w hj hpe)
  rw [hpe] at hp ⊢
  have h0 : (p : Int) ≠ 0 := by omega
  have q1 : (s : Int).tdiv (p : Int) = ((s / p : Nat) : Int) := by rw [Int.tdiv_eq_ediv_of_nonneg (by omega)]; rfl
  have hd : s / p ≤ s := Nat.div_le_self _ _
  obtain ⟨d, hde⟩ : ∃ d, s / p = d := ⟨_, rfl⟩
  rw [hde] at q1 hd ⊢
  have q2 : IntKind.i64.wrap (d : Int) = (d : Int) := IntWalk.i64_in _ (by omega)
  have q3 : (d : Int).tmod 2 = ((d % 2 : Nat) : Int) := rfl
  have q4 : IntKind.i64.wrap ((d % 2 : Nat) : Int) = ((d % 2 : Nat) : Int) := IntWalk.i64_in _ (by omega)
  clear hpe hde
  go_enter Try.func40, Try.ntmps40
  go_wp2_with fail
  refine C.out.mono ?_
  rintro e w1 ⟨rfl, rfl⟩
  go_wp2_with fail
  go_ret
  exact ⟨rfl, rfl⟩

end Go.Proofs.Ytclfjnoedcimiaa
