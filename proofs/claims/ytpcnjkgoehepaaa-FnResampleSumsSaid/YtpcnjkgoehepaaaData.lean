/- Data: their test. -/
import Derived.Test.YtpcnjkgoehepaaaList
import Derived.Test.YtpcnjkgoehepaaaKeep
namespace Go.Proofs.Ytpcnjkgoehepaaa
open Go.RowKit

def vdB (xs : List Int) : Bool := decide ((xs.length : Int) ≤ 10) && allB xs (-200) 200
structure Vd (xs : List Int) : Prop where
  n10 : xs.length ≤ 10
  x : ∀ k, k < xs.length → -200 ≤ gi xs k ∧ gi xs k ≤ 200
theorem vd_of {xs : List Int} (h : vdB xs = true) : Vd xs := by
  simp only [vdB, Bool.and_eq_true, decide_eq_true_eq] at h
  obtain ⟨h1, h3⟩ := h
  exact ⟨by omega, fun k hk => inB_iff.1 (allB_iff.1 h3 k hk)⟩
theorem vdB_of {xs : List Int} (h : Vd xs) : vdB xs = true := by
  simp only [vdB, Bool.and_eq_true, decide_eq_true_eq]
  exact ⟨by have := h.n10; omega, allB_iff.2 fun k hk => inB_iff.2 (h.x k hk)⟩

set_option maxHeartbeats 1000000 in
theorem validData_any (b o c : Nat) (xs : List Int) (w : World) (h : RowI w b o xs) (hm : xs.length ≤ 1099511627776) :
    Calls Try.prog 34 #[.slice (some ⟨b, o, none⟩) xs.length c] w fun e w' => e = .returned (.bool (vdB xs)) ∧ Below w.heap.size w w' := by
  have H := Lib.hid h
  clear h
  cases h1 : decide ((xs.length : Int) ≤ 10) with
  | false =>
    have e : vdB xs = false := by simp [vdB, h1]
    rw [e]
    clear e
    go_enter Try.func34, Try.ntmps34
    go_wp2_with fail
    go_ret
    exact ⟨rfl, by (repeat' (first | (with_reducible exact Below.refl _ _) | (with_reducible assumption) | (with_reducible refine Below.drewN ?_ _) | (with_reducible refine Below.alloc ?_ ?_ _) | (with_reducible refine Below.drew ?_) | (with_reducible refine Below.setCell ?_ ?_ _) | (with_reducible refine Below.trans ?_ (Below.mono (by assumption) ?_)) | go_size | (with_reducible refine Nat.le_trans ?_ (Below.size (by assumption)))))⟩
  | true =>
    have e : vdB xs = allB xs (-200) 200 := by simp only [vdB, h1]; rfl
    rw [e]
    clear e
    go_enter Try.func34, Try.ntmps34
    go_wp2_with (go_at_call 26; refine (allIn_any _ _ _ _ _ _ _ H.out hm).mono ?_; rintro e w1 ⟨rfl, hb1⟩)
    go_ret
    exact ⟨rfl, by (repeat' (first | (with_reducible exact Below.refl _ _) | (with_reducible assumption) | (with_reducible refine Below.drewN ?_ _) | (with_reducible refine Below.alloc ?_ ?_ _) | (with_reducible refine Below.drew ?_) | (with_reducible refine Below.setCell ?_ ?_ _) | (with_reducible refine Below.trans ?_ (Below.mono (by assumption) ?_)) | go_size | (with_reducible refine Nat.le_trans ?_ (Below.size (by assumption)))))⟩

set_option maxHeartbeats 1000000 in
theorem svalidData_any (b o c : Nat) (xs : List Int) (w : World) (h : RowI w b o xs) (hm : xs.length ≤ 1099511627776) :
    Calls Try.prog 31 #[.slice (some ⟨b, o, none⟩) xs.length c] w fun e w' => e = .returned (.bool (vdB xs)) ∧ w = w' := by
  have H := Lib.hid h
  clear h
  go_enter Try.func31, Try.ntmps31
  go_wp2
  go_loop [3] (fun v3 => ∃ k : Nat, k ≤ xs.length ∧ v3 = .int .i64 k ∧ AllIn xs (-200) 200 k) (fun v3 => xs.length - (intOf v3).toNat)
  case atStart => exact ⟨0, Nat.zero_le _, rfl, fun k hk => absurd hk (Nat.not_lt_zero _)⟩
  case round =>
    obtain ⟨k, hk, rfl, hok⟩ := hrel
    have HO := Lib.hid hok
    clear hok
    by_cases hlt : k < xs.length
    · have c1 := H.out.cell k hlt
      cases hin : inB (gi xs k) (-200) 200 with
      | true =>
        go_wp2_with (go_at_call 32; refine (inRange_any _ _ _ _).mono ?_; rintro e w1 ⟨rfl, rfl⟩)
        go_round
        case rel => exact ⟨k + 1, by omega, by go_num, fun j hj => by by_cases e : j = k; (· subst e; exact hin); exact HO.out j (by omega)⟩
        case measure => simp [intOf]; omega
      | false =>
        have hb := allB_false hlt hin
        have e : vdB xs = false := by simp [vdB, hb]
        have HB := Lib.hid e
        clear hb e
        go_wp2_with (go_at_call 32; refine (inRange_any _ _ _ _).mono ?_; rintro e w1 ⟨rfl, rfl⟩)
        go_ret
        exact ⟨by rw [HB.out]; rfl, rfl⟩
    · have hb : allB xs (-200) 200 = true := allB_iff.2 (by have : k = xs.length := by omega
                                                            rw [← this]; exact HO.out)
      have e : vdB xs = decide ((xs.length : Int) ≤ 10) := by simp [vdB, hb]
      have HB := Lib.hid e
      clear hb e
      go_wp2_with fail
      go_ret
      exact ⟨by rw [HB.out]; rfl, rfl⟩

end Go.Proofs.Ytpcnjkgoehepaaa
