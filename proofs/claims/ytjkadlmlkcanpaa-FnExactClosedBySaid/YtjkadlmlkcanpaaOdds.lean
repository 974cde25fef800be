/- Odds: their test. -/
import Derived.Test.YtjkadlmlkcanpaaPlc
import Derived.Test.YtjkadlmlkcanpaaList
namespace Go.Proofs.Ytjkadlmlkcanpaa
open Go.RowKit

def ovB (xs : List Int) : Bool := inB xs.length 1 6 && allB xs 0 1000
structure Ov (xs : List Int) : Prop where
  n0 : 1 ≤ xs.length
  n6 : xs.length ≤ 6
  x : ∀ k, k < xs.length → 0 ≤ gi xs k ∧ gi xs k ≤ 1000
theorem ov_of {xs : List Int} (h : ovB xs = true) : Ov xs := by
  simp only [ovB, Bool.and_eq_true] at h
  obtain ⟨h1, h3⟩ := h
  have h1 := inB_iff.1 h1
  exact ⟨by omega, by omega, fun k hk => inB_iff.1 (allB_iff.1 h3 k hk)⟩

set_option maxHeartbeats 1000000 in
theorem validOdds_any (b o c : Nat) (xs : List Int) (w : World) (h : RowI w b o xs) (hm : xs.length ≤ 1099511627776) :
    Calls Try.prog 43 #[.slice (some ⟨b, o, none⟩) xs.length c] w fun e w' => e = .returned (.bool (ovB xs)) ∧ Below w.heap.size w w' := by
  have H := Lib.hid h
  clear h
  cases h1 : inB xs.length 1 6 with
  | false =>
    have e : ovB xs = false := by simp [ovB, h1]
    rw [e]
    clear e
    go_enter Try.func43, Try.ntmps43
    go_wp2_with (go_at_call 56; refine (in_any _ _ _ _).mono ?_; rintro e w1 ⟨rfl, rfl⟩)
    go_ret
    exact ⟨rfl, by (repeat' (first | (with_reducible exact Below.refl _ _) | (with_reducible assumption) | (with_reducible refine Below.drewN ?_ _) | (with_reducible refine Below.alloc ?_ ?_ _) | (with_reducible refine Below.drew ?_) | (with_reducible refine Below.setCell ?_ ?_ _) | (with_reducible refine Below.trans ?_ (Below.mono (by assumption) ?_)) | go_size | (with_reducible refine Nat.le_trans ?_ (Below.size (by assumption)))))⟩
  | true =>
    have e : ovB xs = allB xs 0 1000 := by simp only [ovB, h1]; rfl
    rw [e]
    clear e
    go_enter Try.func43, Try.ntmps43
    go_wp2_with (first | (go_at_call 56; refine (in_any _ _ _ _).mono ?_; rintro e w1 ⟨rfl, rfl⟩) | (go_at_call 69; refine (allIn_any _ _ _ _ _ _ _ H.out hm).mono ?_; rintro e w1 ⟨rfl, hb1⟩))
    go_ret
    exact ⟨rfl, by (repeat' (first | (with_reducible exact Below.refl _ _) | (with_reducible assumption) | (with_reducible refine Below.drewN ?_ _) | (with_reducible refine Below.alloc ?_ ?_ _) | (with_reducible refine Below.drew ?_) | (with_reducible refine Below.setCell ?_ ?_ _) | (with_reducible refine Below.trans ?_ (Below.mono (by assumption) ?_)) | go_size | (with_reducible refine Nat.le_trans ?_ (Below.size (by assumption)))))⟩

set_option maxHeartbeats 1000000 in
theorem svalidOdds_any (b o c : Nat) (xs : List Int) (w : World) (h : RowI w b o xs) (hm : xs.length ≤ 1099511627776) :
    Calls Try.prog 41 #[.slice (some ⟨b, o, none⟩) xs.length c] w fun e w' => e = .returned (.bool (ovB xs)) ∧ w = w' := by
  have H := Lib.hid h
  clear h
  go_enter Try.func41, Try.ntmps41
  go_wp2
  go_loop [3] (fun v3 => ∃ k : Nat, k ≤ xs.length ∧ v3 = .int .i64 k ∧ AllIn xs 0 1000 k) (fun v3 => xs.length - (intOf v3).toNat)
  case atStart => exact ⟨0, Nat.zero_le _, rfl, fun k hk => absurd hk (Nat.not_lt_zero _)⟩
  case round =>
    obtain ⟨k, hk, rfl, hok⟩ := hrel
    have HO := Lib.hid hok
    clear hok
    by_cases hlt : k < xs.length
    · have c1 := H.out.cell k hlt
      cases hin : inB (gi xs k) 0 1000 with
      | true =>
        go_wp2_with (go_at_call 53; refine (inRange_any _ _ _ _).mono ?_; rintro e w1 ⟨rfl, rfl⟩)
        go_round
        case rel => exact ⟨k + 1, by omega, by go_num, fun j hj => by by_cases e : j = k; (· subst e; exact hin); exact HO.out j (by omega)⟩
        case measure => simp [intOf]; omega
      | false =>
        have hb := allB_false hlt hin
        have e : ovB xs = false := by simp [ovB, hb]
        have HB := Lib.hid e
        clear hb e
        go_wp2_with (go_at_call 53; refine (inRange_any _ _ _ _).mono ?_; rintro e w1 ⟨rfl, rfl⟩)
        go_ret
        exact ⟨by rw [HB.out]; rfl, rfl⟩
    · have hb : allB xs 0 1000 = true := allB_iff.2 (by have : k = xs.length := by omega
                                                        rw [← this]; exact HO.out)
      have e : ovB xs = inB xs.length 1 6 := by simp [ovB, hb]
      have HB := Lib.hid e
      clear hb e
      go_wp2_with (go_at_call 53; refine (inRange_any _ _ _ _).mono ?_; rintro e w1 ⟨rfl, rfl⟩)
      go_ret
      exact ⟨by rw [HB.out]; rfl, rfl⟩

end Go.Proofs.Ytjkadlmlkcanpaa
