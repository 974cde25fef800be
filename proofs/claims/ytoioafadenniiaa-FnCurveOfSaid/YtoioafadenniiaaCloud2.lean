/- Points for lines: impl.ValidCloud, spec.validCloud. -/
import Derived.Test.YtoioafadenniiaaCloud
namespace Go.Proofs.Ytoioafadenniiaa
open Go.RowKit

def clB (xs ys : List Int) : Bool := plB xs ys 7 && wdB xs
def vpB (xs ys : List Int) : Bool := ((xs.length : Int) == (ys.length : Int)) && decide (xs.length ≤ 7) && allB xs (-12) 12 && allB ys (-12) 12
theorem vp_wd (xs ys : List Int) : (vpB xs ys && wdB xs) = clB xs ys := by
  unfold clB plB vpB
  cases xs with
  | nil => simp [wdB]
  | cons x xs =>
    have : inB ((x :: xs).length : Nat) 1 7 = decide ((x :: xs).length ≤ 7) := by
      simp only [inB, List.length_cons]
      rw [show decide ((1 : Int) ≤ ((xs.length + 1 : Nat) : Int)) = true by simp; omega, Bool.true_and, decide_eq_decide]
      omega
    rw [this]
theorem vp_pl (xs ys : List Int) (m : Nat) (hm : m ≤ 7) : (vpB xs ys && inB xs.length 1 m) = plB xs ys m := by
  unfold plB vpB
  cases h : inB xs.length 1 m with
  | false => simp
  | true =>
    have := inB_iff.1 h
    rw [show decide (xs.length ≤ 7) = true by simp; omega]
    simp

set_option maxHeartbeats 1000000 in
theorem validCloud_any (b o c b' o' c' : Nat) (xs ys : List Int) (w : World) (h : RowI w b o xs) (h' : RowI w b' o' ys) (hm : xs.length ≤ 1099511627776) (hm' : ys.length ≤ 1099511627776) :
    Calls Try.prog 50 #[.slice (some ⟨b, o, none⟩) xs.length c, .slice (some ⟨b', o', none⟩) ys.length c'] w
      fun e w' => e = .returned (.bool (clB xs ys)) ∧ Below w.heap.size w w' := by
  have H := Lib.hid h
  have CP := placesValid_any b o c b' o' c' xs ys 7 w h h' hm hm'
  cases h1 : plB xs ys 7 with
  | false =>
    have e : clB xs ys = false := by simp [clB, h1]
    rw [h1] at CP
    rw [e]
    have CP := Lib.hid CP
    clear e h h' h1
    go_enter Try.func50, Try.ntmps50
    go_wp2_with (go_at_call 78; refine CP.out.mono ?_; rintro e w1 ⟨rfl, hb1⟩)
    go_ret
    exact ⟨rfl, hb1⟩
  | true =>
    have hp := pl_of (m := 7) h1
    have hw := wd_min hp.n0
    have n0 := hp.n0
    have e : clB xs ys = wdB xs := by simp [clB, h1]
    rw [h1] at CP
    rw [e, ← hw]
    have CP := Lib.hid CP
    obtain ⟨n, hn⟩ : ∃ n, xs.length = n := ⟨_, rfl⟩
    have CMn := Lib.hid (fun w (h : RowI w b o xs) => min_any b o c n xs w h hn (by omega) (by omega))
    have CMx := Lib.hid (fun w (h : RowI w b o xs) => max_any b o c n xs w h hn (by omega) (by omega))
    rw [hn] at CP ⊢
    obtain ⟨u, hu⟩ : ∃ u, mnI xs (n - 1) = u := ⟨_, rfl⟩
    obtain ⟨v, hv⟩ : ∃ u, mxI xs (n - 1) = u := ⟨_, rfl⟩
    rw [hu] at CMn ⊢
    rw [hv] at CMx ⊢
    clear e h h' h1 hp hw n0 hn hu hv hm hm'
    go_enter Try.func50, Try.ntmps50
    go_wp2_with (first | (go_at_call 78; refine CP.out.mono ?_; rintro e w1 ⟨rfl, hb1⟩) | (go_at_call 83; refine (CMn.out _ (H.out.below hb1)).mono ?_; rintro e w2 ⟨rfl, rfl⟩) | (go_at_call 84; refine (CMx.out _ (H.out.below hb1)).mono ?_; rintro e w3 ⟨rfl, rfl⟩))
    go_ret
    exact ⟨rfl, hb1⟩

set_option maxHeartbeats 1000000 in
theorem validPoints_any (b o c b' o' c' : Nat) (xs ys : List Int) (w : World) (h : RowI w b o xs) (h' : RowI w b' o' ys) (hm : xs.length ≤ 1099511627776) (_hm' : ys.length ≤ 1099511627776) :
    Calls Try.prog 41 #[.slice (some ⟨b, o, none⟩) xs.length c, .slice (some ⟨b', o', none⟩) ys.length c'] w
      fun e w' => e = .returned (.bool (vpB xs ys)) ∧ w = w' := by
  have H := Lib.hid h
  have H' := Lib.hid h'
  clear h h'
  go_enter Try.func41, Try.ntmps41
  go_wp2
  go_loop [5] (fun v5 => ∃ k : Nat, k ≤ xs.length ∧ k ≤ ys.length ∧ v5 = .int .i64 k ∧ AllIn xs (-12) 12 k ∧ AllIn ys (-12) 12 k) (fun v5 => xs.length - (intOf v5).toNat)
  case atStart => exact ⟨0, Nat.zero_le _, Nat.zero_le _, rfl, fun k hk => absurd hk (Nat.not_lt_zero _), fun k hk => absurd hk (Nat.not_lt_zero _)⟩
  case round =>
    obtain ⟨k, hk, hk', rfl, hok, hok'⟩ := hrel
    have HO := Lib.hid hok
    have HO' := Lib.hid hok'
    clear hok hok'
    by_cases hlt : k < xs.length
    · by_cases hlt' : k < ys.length
      · have c1 := H.out.cell k hlt
        have c2 := H'.out.cell k hlt'
        obtain ⟨x, hx⟩ : ∃ x, gi xs k = x := ⟨_, rfl⟩
        obtain ⟨y, hy⟩ : ∃ x, gi ys k = x := ⟨_, rfl⟩
        rw [hx] at c1
        rw [hy] at c2
        have HX := Lib.hid hx
        have HY := Lib.hid hy
        clear hx hy
        cases hin : inB x (-12) 12 with
        | true =>
          have C1 := Lib.hid (fun w => hin ▸ inRange_any x (-12) 12 w)
          cases hin' : inB y (-12) 12 with
          | true =>
            have C2 := Lib.hid (fun w => hin' ▸ inRange_any y (-12) 12 w)
            have HI := Lib.hid hin
            have HI' := Lib.hid hin'
            clear hin hin'
            go_wp2_with (first | (go_at_call_of 42 x; refine (C1.out _).mono ?_; rintro e w1 ⟨rfl, rfl⟩) | (go_at_call_of 42 y; refine (C2.out _).mono ?_; rintro e w1 ⟨rfl, rfl⟩))
            go_round
            case rel => exact ⟨k + 1, by omega, by omega, by go_num, fun j hj => by by_cases e : j = k; (· subst e; rw [HX.out]; exact HI.out); exact HO.out j (by omega), fun j hj => by by_cases e : j = k; (· subst e; rw [HY.out]; exact HI'.out); exact HO'.out j (by omega)⟩
            case measure => simp [intOf]; omega
          | false =>
            have C2 := Lib.hid (fun w => hin' ▸ inRange_any y (-12) 12 w)
            have hb := allB_false hlt' (by rw [HY.out]; exact hin')
            have e : vpB xs ys = false := by simp [vpB, hb]
            have HB := Lib.hid e
            clear hb e hin hin'
            go_wp2_with (first | (go_at_call_of 42 x; refine (C1.out _).mono ?_; rintro e w1 ⟨rfl, rfl⟩) | (go_at_call_of 42 y; refine (C2.out _).mono ?_; rintro e w1 ⟨rfl, rfl⟩))
            go_ret
            exact ⟨by rw [HB.out]; rfl, rfl⟩
        | false =>
          have C1 := Lib.hid (fun w => hin ▸ inRange_any x (-12) 12 w)
          have hb := allB_false hlt (by rw [HX.out]; exact hin)
          have e : vpB xs ys = false := by simp [vpB, hb]
          have HB := Lib.hid e
          clear hb e hin
          go_wp2_with (go_at_call 42; refine (C1.out _).mono ?_; rintro e w1 ⟨rfl, rfl⟩)
          go_ret
          exact ⟨by rw [HB.out]; rfl, rfl⟩
      · have e : vpB xs ys = false := by
          have : ((xs.length : Int) == (ys.length : Int)) = false := by simp; omega
          simp only [vpB, this]; rfl
        have HB := Lib.hid e
        have hge : (ys.length : Int) ≤ (k : Int) := by omega
        clear e
        go_wp2_with fail
        go_ret
        exact ⟨by rw [HB.out]; rfl, rfl⟩
    · have hkx : k = xs.length := by omega
      have h1 : allB xs (-12) 12 = true := allB_iff.2 (by rw [← hkx]; exact HO.out)
      cases heq : ((xs.length : Int) == (ys.length : Int)) with
      | false =>
        have e : vpB xs ys = false := by simp only [vpB, heq]; rfl
        have HB := Lib.hid e
        clear e h1 hkx
        go_wp2_with fail
        go_ret
        exact ⟨by rw [HB.out]; rfl, rfl⟩
      | true =>
        have hxy : (xs.length : Int) = (ys.length : Int) := by simpa using heq
        have h2 : allB ys (-12) 12 = true := allB_iff.2 (by rw [show ys.length = k by omega]; exact HO'.out)
        have e : vpB xs ys = decide ((xs.length : Int) ≤ 7) := by
          simp only [vpB, heq, h1, h2, Bool.true_and, Bool.and_true, decide_eq_decide]
          omega
        have HB := Lib.hid e
        clear e h1 h2 hkx hxy
        go_wp2_with fail
        go_ret
        exact ⟨by rw [HB.out]; first | rfl | simp, rfl⟩

set_option maxHeartbeats 1000000 in
theorem wide_any (b o c : Nat) (xs : List Int) (w : World) (h : RowI w b o xs) (hm : xs.length ≤ 1099511627776) :
    Calls Try.prog 81 #[.slice (some ⟨b, o, none⟩) xs.length c] w fun e w' => e = .returned (.bool (wdB xs)) ∧ ∃ n, w' = w.drewN n := by
  have H := Lib.hid h
  clear h
  go_enter Try.func81, Try.ntmps81
  go_wp2
  go_loopw [3] (fun v3 wr => ∃ k : Nat, v3 = .int .i64 ((k + 1 : Nat) : Int) ∧ k ≤ xs.length ∧ (∀ j, j < k + 1 → j < xs.length → gi xs j = gi xs 0) ∧ ∃ n, wr = w.drewN n) (fun v3 _ => xs.length + 1 - (intOf v3).toNat)
  case atStart => exact ⟨0, rfl, Nat.zero_le _, fun j hj _ => by rw [show j = 0 by omega], 0, rfl⟩
  case round =>
    obtain ⟨k, rfl, hk, hs, mq, rfl⟩ := hrel
    have HS := Lib.hid hs
    clear hs
    by_cases hlt : k + 1 < xs.length
    · have c1 := H.out.cell (k + 1) hlt
      have c2 := H.out.cell 0 (by omega)
      rw [Nat.add_zero] at c2
      have n0 : 0 < xs.length := by omega
      obtain ⟨x, hx⟩ : ∃ x, gi xs (k + 1) = x := ⟨_, rfl⟩
      obtain ⟨y, hy⟩ : ∃ x, gi xs 0 = x := ⟨_, rfl⟩
      rw [hx] at c1
      rw [hy] at c2
      have HX := Lib.hid hx
      have HY := Lib.hid hy
      obtain ⟨j, hj⟩ : ∃ j, k + 1 = j := ⟨_, rfl⟩
      rw [hj] at c1 hlt ⊢
      have HJ := Lib.hid hj
      by_cases hxy : x = y
      · have t1 : (x != y) = false := by simp [hxy]
        have HXY := Lib.hid hxy
        clear hx hy hxy hj
        go_wp2
        go_quiet (fail)
        go_wp2
        go_roundw
        case rel =>
          have hj := HJ.out
          refine ⟨k + 1, by rw [hj]; go_num, by omega, fun i hi hl => ?_, mq + nq, by simp⟩
          by_cases e : i = k + 1
          · rw [e, HX.out, HXY.out, HY.out]
          · exact HS.out i (by omega) hl
        case measure => simp [intOf]; omega
      · have t1 : (x != y) = true := by simpa using hxy
        have e : wdB xs = true := wdB_iff.2 ⟨k + 1, by omega, by rw [hx, hy]; exact hxy⟩
        have HB := Lib.hid e
        clear hx hy hxy hj e
        go_wp2
        go_quiet (fail)
        go_wp2
        go_ret
        exact ⟨by rw [HB.out]; rfl, mq + nq, by simp⟩
    · have e : wdB xs = false := by
        cases hw : wdB xs with
        | false => rfl
        | true =>
          obtain ⟨j, hj, hne⟩ := wdB_iff.1 hw
          exact absurd (HS.out j (by omega) hj) hne
      have HB := Lib.hid e
      clear e
      go_wp2
      go_ret
      exact ⟨by rw [HB.out]; rfl, _, rfl⟩

set_option maxHeartbeats 1000000 in
theorem svalidCloud_any (b o c b' o' c' : Nat) (xs ys : List Int) (w : World) (h : RowI w b o xs) (h' : RowI w b' o' ys) (hm : xs.length ≤ 1099511627776) (hm' : ys.length ≤ 1099511627776) :
    Calls Try.prog 46 #[.slice (some ⟨b, o, none⟩) xs.length c, .slice (some ⟨b', o', none⟩) ys.length c'] w
      fun e w' => e = .returned (.bool (clB xs ys)) ∧ Below w.heap.size w w' := by
  have CV := validPoints_any b o c b' o' c' xs ys w h h' hm hm'
  have CW := Lib.hid (wide_any b o c xs w h hm)
  rw [← vp_wd]
  cases hv : vpB xs ys with
  | false =>
    rw [hv] at CV
    have CV := Lib.hid CV
    rw [Bool.false_and]
    clear h h' hv
    go_enter Try.func46, Try.ntmps46
    go_wp2_with (go_at_call 41; refine CV.out.mono ?_; rintro e w1 ⟨rfl, rfl⟩)
    go_ret
    exact ⟨rfl, Below.refl _ _⟩
  | true =>
    rw [hv] at CV
    have CV := Lib.hid CV
    rw [Bool.true_and]
    clear h h' hv
    go_enter Try.func46, Try.ntmps46
    go_wp2_with (first | (go_at_call 41; refine CV.out.mono ?_; rintro e w1 ⟨rfl, rfl⟩) | (go_at_call 81; refine CW.out.mono ?_; rintro e w2 ⟨rfl, nq, rfl⟩))
    go_ret
    exact ⟨rfl, Below.drewN (Below.refl _ _) _⟩

end Go.Proofs.Ytoioafadenniiaa
