/- Sums of numbers: laws.total. -/
import Derived.Test.YtjkadlmlkcanpaaToInt
namespace Go.Proofs.Ytjkadlmlkcanpaa
open Go.RowKit

theorem gi_mem {xs : List Int} {k : Nat} (h : k < xs.length) : gi xs k ∈ xs := by rw [gi_eq h]; exact List.getElem_mem h

/-- The sum of the first k numbers. -/
def totS (xs : List Int) : Nat → Int
  | 0 => 0
  | k + 1 => totS xs k + gi xs k
theorem totS_append (A B : List Int) : ∀ k, k ≤ B.length → totS (A ++ B) (A.length + k) = totS (A ++ B) A.length + totS B k
  | 0, _ => by simp [totS]
  | k + 1, h => by
    rw [← Nat.add_assoc, totS, totS_append A B k (by omega), totS]
    have : gi (A ++ B) (A.length + k) = gi B k := by
      rw [gi_eq (by rw [List.length_append]; omega), gi_eq (by omega)]
      simp
    rw [this]
    omega
theorem totS_left (A B : List Int) : ∀ k, k ≤ A.length → totS (A ++ B) k = totS A k
  | 0, _ => rfl
  | k + 1, h => by
    rw [totS, totS, totS_left A B k (by omega), gi_eq (by rw [List.length_append]; omega), gi_eq (by omega), List.getElem_append_left]
theorem totS_snoc (A : List Int) (x : Int) : totS (A ++ [x]) (A ++ [x]).length = totS A A.length + x := by
  rw [List.length_append, List.length_singleton, totS_append A [x] 1 (by simp), totS_left A [x] _ (Nat.le_refl _)]
  simp [totS, gi]
theorem totS_in {xs : List Int} {B : Int} (h : ∀ x ∈ xs, 0 ≤ x ∧ x ≤ B) : ∀ k, k ≤ xs.length → 0 ≤ totS xs k ∧ totS xs k ≤ k * B
  | 0, _ => by simp [totS]
  | k + 1, hk => by
    have h1 := totS_in h k (by omega)
    have h2 := h (gi xs k) (gi_mem (by omega))
    rw [totS, Int.natCast_add, Int.add_mul]
    omega

set_option maxHeartbeats 1000000 in
theorem total_row (b o c : Nat) (xs : List Int) (B : Int) (w : World) (h : RowI w b o xs) (hl : xs.length ≤ 1000) (hx : ∀ x ∈ xs, 0 ≤ x ∧ x ≤ B) (hB : B ≤ 1000000) :
    Calls Try.prog 32 #[.slice (some ⟨b, o, none⟩) xs.length c] w fun e w' => e = .returned (.int .i64 (totS xs xs.length)) ∧ w = w' := by
  have H := Lib.hid h
  have HI := Lib.hid (fun k hk => totS_in hx k hk)
  have HX := Lib.hid hx
  clear h hx
  go_enter Try.func32, Try.ntmps32
  go_wp2_with fail
  go_loop [3, 4] (fun v3 v4 => ∃ k : Nat, v4 = .int .i64 (k : Int) ∧ k ≤ xs.length ∧ v3 = .int .i64 (totS xs k)) (fun _ v4 => xs.length - (intOf v4).toNat)
  case atStart => exact ⟨0, rfl, by omega, rfl⟩
  case round =>
    obtain ⟨k, rfl, hk, rfl⟩ := hrel
    by_cases hlt : k < xs.length
    · have y1 := H.out.cell k hlt
      have i1 := HI.out k hk
      have hkB : (k : Int) * B ≤ 1000 * 1000000 := by
        have hB0 : 0 ≤ B := by have := HX.out _ (gi_mem hlt); omega
        exact Int.mul_le_mul (by omega) hB hB0 (by omega)
      have i2 := HX.out _ (gi_mem hlt)
      have s1 : totS xs (k + 1) = totS xs k + gi xs k := rfl
      obtain ⟨x, hx⟩ : ∃ x, gi xs k = x := ⟨_, rfl⟩
      obtain ⟨m, hm⟩ : ∃ m, totS xs k = m := ⟨_, rfl⟩
      rw [hx] at y1 s1 i2
      rw [hm] at s1 i1 ⊢
      have S1 := Lib.hid s1
      have q1 : IntKind.i64.wrap (m + x) = m + x := IntWalk.i64_in _ (by omega)
      clear s1 hx hm
      go_wp2_with fail
      go_round
      case rel => exact ⟨k + 1, by go_num, by omega, by rw [S1.out]⟩
      case measure => simp [intOf]; omega
    · have e : k = xs.length := by omega
      subst e
      go_wp2_with fail
      go_ret
      exact ⟨rfl, rfl⟩
theorem total_nil (a : Option Addr) (c : Nat) (w : World) : Calls Try.prog 32 #[.slice a 0 c] w fun e w' => e = .returned (.int .i64 0) ∧ w = w' := by
  go_enter Try.func32, Try.ntmps32
  go_wp2_with fail
  go_rounds 1
  go_ret
  exact ⟨rfl, rfl⟩
theorem total_any (v : Value) (xs : List Int) (B : Int) (w : World) (h : ArgI w v xs) (hl : xs.length ≤ 1000) (hx : ∀ x ∈ xs, 0 ≤ x ∧ x ≤ B) (hB : B ≤ 1000000) :
    Calls Try.prog 32 #[v] w fun e w' => e = .returned (.int .i64 (totS xs xs.length)) ∧ w = w' := by
  rcases h with ⟨a, c, rfl, rfl⟩ | ⟨b, o, c, rfl, h⟩
  · exact total_nil a c w
  · exact total_row b o c xs B w h hl hx hB

end Go.Proofs.Ytjkadlmlkcanpaa
