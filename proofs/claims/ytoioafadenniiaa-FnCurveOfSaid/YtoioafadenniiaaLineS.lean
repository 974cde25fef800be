/- The line of the least squares: sums of the program and of the reference. -/
import Derived.Test.YtoioafadenniiaaLineP
import Derived.Test.YtoioafadenniiaaFOps
namespace Go.Proofs.Ytoioafadenniiaa
open Go.RowKit

theorem suN_in {xs : List Int} (hx : ∀ k, k < xs.length → -12 ≤ gi xs k ∧ gi xs k ≤ 12) (k : Nat) (hk : k ≤ xs.length) : -(12 * (k : Int)) ≤ suN xs k ∧ suN xs k ≤ 12 * (k : Int) :=
  suN_bd k fun j hj => hx j (by omega)

set_option maxHeartbeats 400000 in
theorem isum_any (b o c : Nat) (xs : List Int) (z : Int) (w : World) (h : RowI w b o xs) (hl : xs.length ≤ 1048576) (hx : ∀ k, k < xs.length → -12 ≤ gi xs k ∧ gi xs k ≤ 12) (hz : suN xs xs.length = z) :
    Calls Try.prog 70 #[.slice (some ⟨b, o, none⟩) xs.length c] w fun e w' => e = .returned (.int .i64 z) ∧ Below w.heap.size w w' := by
  have H := Lib.hid h
  have HX := Lib.hid hx
  have HZ := Lib.hid hz
  clear h hx hz
  go_enter Try.func70, Try.ntmps70
  go_wp2
  go_loop [3, 8] (fun v3 v8 => ∃ k : Nat, k ≤ xs.length ∧ v8 = .int .i64 k ∧ v3 = .int .i64 (suN xs k)) (fun _ v8 => xs.length - (intOf v8).toNat)
  case atStart => exact ⟨0, Nat.zero_le _, rfl, rfl⟩
  case round =>
    obtain ⟨k, hk, rfl, rfl⟩ := hrel
    by_cases hlt : k < xs.length
    · have c1 := H.out.cell k hlt
      have b1 := suN_in HX.out k hk
      have b2 := HX.out k hlt
      have e1 : suN xs k + gi xs k = suN xs (k + 1) := rfl
      have E1 := Lib.hid e1
      clear e1
      go_wp2
      go_round
      case rel => exact ⟨k + 1, by omega, by go_num, by rw [← E1.out]⟩
      case measure => simp [intOf]; omega
    · have e : k = xs.length := by omega
      have e2 : suN xs k = z := by rw [e]; exact HZ.out
      have E2 := Lib.hid e2
      clear e e2
      go_wp2_with fail
      go_ret
      exact ⟨by rw [E2.out]; rfl, Below.refl _ _⟩

set_option maxHeartbeats 400000 in
theorem ssum_any (b o c : Nat) (xs : List Int) (z : Int) (w : World) (h : RowI w b o xs) (hl : xs.length ≤ 1048576) (hx : ∀ k, k < xs.length → -12 ≤ gi xs k ∧ gi xs k ≤ 12) (hz : suN xs xs.length = z) :
    Calls Try.prog 88 #[.slice (some ⟨b, o, none⟩) xs.length c] w fun e w' => e = .returned (.int .i64 z) ∧ Below w.heap.size w w' := by
  have H := Lib.hid h
  have HX := Lib.hid hx
  have HZ := Lib.hid hz
  clear h hx hz
  go_enter Try.func88, Try.ntmps88
  go_wp2
  go_loop [3, 4] (fun v3 v8 => ∃ k : Nat, k ≤ xs.length ∧ v8 = .int .i64 k ∧ v3 = .int .i64 (suN xs k)) (fun _ v8 => xs.length - (intOf v8).toNat)
  case atStart => exact ⟨0, Nat.zero_le _, rfl, rfl⟩
  case round =>
    obtain ⟨k, hk, rfl, rfl⟩ := hrel
    by_cases hlt : k < xs.length
    · have c1 := H.out.cell k hlt
      have b1 := suN_in HX.out k hk
      have b2 := HX.out k hlt
      have e1 : suN xs k + gi xs k = suN xs (k + 1) := rfl
      have E1 := Lib.hid e1
      clear e1
      go_wp2
      go_round
      case rel => exact ⟨k + 1, by omega, by go_num, by rw [← E1.out]⟩
      case measure => simp [intOf]; omega
    · have e : k = xs.length := by omega
      have e2 : suN xs k = z := by rw [e]; exact HZ.out
      have E2 := Lib.hid e2
      clear e e2
      go_wp2_with fail
      go_ret
      exact ⟨by rw [E2.out]; rfl, Below.refl _ _⟩

end Go.Proofs.Ytoioafadenniiaa
