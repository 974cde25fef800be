/- Numbers with weights: their test and their means. -/
import Derived.Test.YtcmbfkdhfdiamaaList
import Derived.Test.YtcmbfkdhfdiamaaSFrac
namespace Go.Proofs.Ytcmbfkdhfdiamaa
open Go.RowKit

/-- Numbers with weights. -/
def vlB (xs ws : List Int) : Bool := inB xs.length 1 8 && ((ws.length : Int) == (xs.length : Int)) && allB xs (-30) 30 && allB ws 1 5

set_option maxHeartbeats 1000000 in
theorem validLoads_any (b o c b' o' c' : Nat) (xs ws : List Int) (w : World) (h : RowI w b o xs) (h' : RowI w b' o' ws) (hm : xs.length ≤ 1099511627776) (hm' : ws.length ≤ 1099511627776) :
    Calls Try.prog 62 #[.slice (some ⟨b, o, none⟩) xs.length c, .slice (some ⟨b', o', none⟩) ws.length c'] w
      fun e w' => e = .returned (.bool (vlB xs ws)) ∧ Below w.heap.size w w' := by
  have H := Lib.hid h
  have H' := Lib.hid h'
  clear h h'
  cases h1 : inB xs.length 1 8 with
  | false =>
    have e : vlB xs ws = false := by simp [vlB, h1]
    rw [e]
    clear e
    go_enter Try.func62, Try.ntmps62
    go_wp2_with (go_at_call 96; refine (in_any _ _ _ _).mono ?_; rintro e w1 ⟨rfl, rfl⟩)
    go_ret
    exact ⟨rfl, by (repeat' (first | (with_reducible exact Below.refl _ _) | (with_reducible assumption) | (with_reducible refine Below.drewN ?_ _) | (with_reducible refine Below.alloc ?_ ?_ _) | (with_reducible refine Below.drew ?_) | (with_reducible refine Below.setCell ?_ ?_ _) | (with_reducible refine Below.trans ?_ (Below.mono (by assumption) ?_)) | go_size | (with_reducible refine Nat.le_trans ?_ (Below.size (by assumption)))))⟩
  | true =>
    cases h2 : ((ws.length : Int) == (xs.length : Int)) with
    | false =>
      have e : vlB xs ws = false := by simp only [vlB, h1, h2]; rfl
      rw [e]
      clear e
      go_enter Try.func62, Try.ntmps62
      go_wp2_with (go_at_call 96; refine (in_any _ _ _ _).mono ?_; rintro e w1 ⟨rfl, rfl⟩)
      go_ret
      exact ⟨rfl, by (repeat' (first | (with_reducible exact Below.refl _ _) | (with_reducible assumption) | (with_reducible refine Below.drewN ?_ _) | (with_reducible refine Below.alloc ?_ ?_ _) | (with_reducible refine Below.drew ?_) | (with_reducible refine Below.setCell ?_ ?_ _) | (with_reducible refine Below.trans ?_ (Below.mono (by assumption) ?_)) | go_size | (with_reducible refine Nat.le_trans ?_ (Below.size (by assumption)))))⟩
    | true =>
      cases h3 : allB xs (-30) 30 with
      | false =>
        have e : vlB xs ws = false := by simp only [vlB, h1, h2, h3]; rfl
        rw [e]
        clear e
        go_enter Try.func62, Try.ntmps62
        go_wp2_with (first | (go_at_call 96; refine (in_any _ _ _ _).mono ?_; rintro e w1 ⟨rfl, rfl⟩) | (go_at_call 97; refine (allIn_any _ _ _ _ _ _ _ H.out hm).mono ?_; rintro e w1 ⟨rfl, hb1⟩))
        go_ret
        exact ⟨rfl, by (repeat' (first | (with_reducible exact Below.refl _ _) | (with_reducible assumption) | (with_reducible refine Below.drewN ?_ _) | (with_reducible refine Below.alloc ?_ ?_ _) | (with_reducible refine Below.drew ?_) | (with_reducible refine Below.setCell ?_ ?_ _) | (with_reducible refine Below.trans ?_ (Below.mono (by assumption) ?_)) | go_size | (with_reducible refine Nat.le_trans ?_ (Below.size (by assumption)))))⟩
      | true =>
        have e : vlB xs ws = allB ws 1 5 := by simp only [vlB, h1, h2, h3]; rfl
        rw [e]
        clear e
        go_enter Try.func62, Try.ntmps62
        go_wp2_with (first | (go_at_call 96; refine (in_any _ _ _ _).mono ?_; rintro e w1 ⟨rfl, rfl⟩) | (go_at_call_of 97 xs.length; refine (allIn_any _ _ _ _ _ _ _ H.out hm).mono ?_; rintro e w1 ⟨rfl, hb1⟩) | (go_at_call_of 97 ws.length; refine (allIn_any _ _ _ _ _ _ _ (H'.out.below hb1) hm').mono ?_; rintro e w2 ⟨rfl, hb2⟩))
        go_ret
        exact ⟨rfl, by (repeat' (first | (with_reducible exact Below.refl _ _) | (with_reducible assumption) | (with_reducible refine Below.drewN ?_ _) | (with_reducible refine Below.alloc ?_ ?_ _) | (with_reducible refine Below.drew ?_) | (with_reducible refine Below.setCell ?_ ?_ _) | (with_reducible refine Below.trans ?_ (Below.mono (by assumption) ?_)) | go_size | (with_reducible refine Nat.le_trans ?_ (Below.size (by assumption)))))⟩


set_option maxHeartbeats 1000000 in
theorem svalidLoads_any (b o c b' o' c' : Nat) (xs ws : List Int) (w : World) (h : RowI w b o xs) (h' : RowI w b' o' ws) (hm : xs.length ≤ 1099511627776) (hm' : ws.length ≤ 1099511627776) :
    Calls Try.prog 64 #[.slice (some ⟨b, o, none⟩) xs.length c, .slice (some ⟨b', o', none⟩) ws.length c'] w
      fun e w' => e = .returned (.bool (vlB xs ws)) ∧ w = w' := by
  have H := Lib.hid h
  have H' := Lib.hid h'
  clear h h'
  go_enter Try.func64, Try.ntmps64
  go_wp2
  go_loop [5] (fun v5 => ∃ k : Nat, k ≤ ws.length ∧ v5 = .int .i64 k ∧ AllIn ws 1 5 k) (fun v5 => ws.length - (intOf v5).toNat)
  case atStart => exact ⟨0, Nat.zero_le _, rfl, fun k hk => absurd hk (Nat.not_lt_zero _)⟩
  case round =>
    obtain ⟨k, hk, rfl, hok⟩ := hrel
    have HO := Lib.hid hok
    clear hok
    by_cases hlt : k < ws.length
    · have c1 := H'.out.cell k hlt
      cases hin : inB (gi ws k) 1 5 with
      | true =>
        go_wp2_with (go_at_call 91; refine (inRange_any _ _ _ _).mono ?_; rintro e w1 ⟨rfl, rfl⟩)
        go_round
        case rel => exact ⟨k + 1, by omega, by go_num, fun j hj => by by_cases e : j = k; (· subst e; exact hin); exact HO.out j (by omega)⟩
        case measure => simp [intOf]; omega
      | false =>
        have hb := allB_false hlt hin
        have e : vlB xs ws = false := by simp [vlB, hb]
        have HB := Lib.hid e
        clear hb e
        go_wp2_with (go_at_call 91; refine (inRange_any _ _ _ _).mono ?_; rintro e w1 ⟨rfl, rfl⟩)
        go_ret
        exact ⟨by rw [HB.out]; rfl, rfl⟩
    · have hb : allB ws 1 5 = true := allB_iff.2 (by have : k = ws.length := by omega
                                                     rw [← this]; exact HO.out)
      have HB := Lib.hid hb
      clear hb
      go_wp2_with fail
      go_loop [6] (fun v6 => ∃ k : Nat, k ≤ xs.length ∧ v6 = .int .i64 k ∧ AllIn xs (-30) 30 k) (fun v6 => xs.length - (intOf v6).toNat)
      case atStart => exact ⟨0, Nat.zero_le _, rfl, fun k hk => absurd hk (Nat.not_lt_zero _)⟩
      case round =>
        obtain ⟨j, hj, rfl, hok2⟩ := hrel
        have HO2 := Lib.hid hok2
        clear hok2
        by_cases hlt2 : j < xs.length
        · have c1 := H.out.cell j hlt2
          cases hin : inB (gi xs j) (-30) 30 with
          | true =>
            go_wp2_with (go_at_call 91; refine (inRange_any _ _ _ _).mono ?_; rintro e w1 ⟨rfl, rfl⟩)
            go_round
            case rel => exact ⟨j + 1, by omega, by go_num, fun i hi => by by_cases e : i = j; (· subst e; exact hin); exact HO2.out i (by omega)⟩
            case measure => simp [intOf]; omega
          | false =>
            have hb := allB_false hlt2 hin
            have e : vlB xs ws = false := by simp [vlB, hb]
            have HB2 := Lib.hid e
            clear hb e
            go_wp2_with (go_at_call 91; refine (inRange_any _ _ _ _).mono ?_; rintro e w1 ⟨rfl, rfl⟩)
            go_ret
            exact ⟨by rw [HB2.out]; rfl, rfl⟩
        · have hb : allB xs (-30) 30 = true := allB_iff.2 (by have : j = xs.length := by omega
                                                              rw [← this]; exact HO2.out)
          cases h2 : ((xs.length : Int) == (ws.length : Int)) with
          | false =>
            have h3 : ((ws.length : Int) == (xs.length : Int)) = false := by rw [BEq.comm]; exact h2
            have e : vlB xs ws = false := by simp only [vlB, h3]; simp
            have HB2 := Lib.hid e
            clear hb e h3
            go_wp2_with fail
            go_ret
            exact ⟨by rw [HB2.out]; rfl, rfl⟩
          | true =>
            have h3 : ((ws.length : Int) == (xs.length : Int)) = true := by rw [BEq.comm]; exact h2
            have e : vlB xs ws = inB xs.length 1 8 := by simp only [vlB, h3, hb, HB.out]; simp
            have HB2 := Lib.hid e
            clear hb e h3
            go_wp2_with (go_at_call 91; refine (inRange_any _ _ _ _).mono ?_; rintro e w1 ⟨rfl, rfl⟩)
            go_ret
            exact ⟨by rw [HB2.out]; rfl, rfl⟩

end Go.Proofs.Ytcmbfkdhfdiamaa
