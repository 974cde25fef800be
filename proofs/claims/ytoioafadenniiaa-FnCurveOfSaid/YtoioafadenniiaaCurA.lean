/- impl.CurveOf and spec.CurveOf return the same factors. -/
import Derived.Test.YtoioafadenniiaaCur
namespace Go.Proofs.Ytoioafadenniiaa
open Go.RowKit

set_option maxHeartbeats 2000000 in
theorem different_any (b o c : Nat) (xs : List Int) (w : World) (h : RowI w b o xs) (hl : xs.length ≤ 1048576) :
    Calls Try.prog 43 #[.slice (some ⟨b, o, none⟩) xs.length c] w fun e w' => e = .returned (.bool (dfB xs)) ∧ Below w.heap.size w w' := by
  have H := Lib.hid h
  have DF := Lib.hid (fun i (hi : i < xs.length) (h : hasI xs (gi xs i) i = true) => df_false hi h)
  have DT := Lib.hid (df_true (xs := xs))
  clear h
  go_enter Try.func43, Try.ntmps43
  go_wp2_with fail
  go_loopw [3] (fun v3 wr => ∃ i : Nat, v3 = .int .i64 i ∧ i ≤ xs.length ∧ (∀ j, j < i → hasI xs (gi xs j) j = false) ∧ Below w.heap.size w wr) (fun v3 _ => xs.length - (intOf v3).toNat)
  case atStart => exact ⟨0, rfl, Nat.zero_le _, fun j hj => absurd hj (Nat.not_lt_zero _), Below.refl _ _⟩
  case round =>
    obtain ⟨i, rfl, hi, hall, hb⟩ := hrel
    have HA := Lib.hid hall
    have B := Lib.hid hb
    clear hall hb
    by_cases hlt : i < xs.length
    · go_wp2_with fail
      go_loopw [4] (fun v4 wr => ∃ k : Nat, v4 = .int .i64 k ∧ k ≤ i ∧ hasI xs (gi xs i) k = false ∧ Below w.heap.size w wr) (fun v4 _ => i - (intOf v4).toNat)
      case atStart => exact ⟨0, rfl, Nat.zero_le _, rfl, B.out⟩
      case round =>
        clear B
        obtain ⟨k, rfl, hk, hh, hb⟩ := hrel
        have HH := Lib.hid hh
        have B := Lib.hid hb
        clear hh hb
        by_cases hlk : k < i
        · have hkl : k < xs.length := by omega
          have c1 := (H.out.below B.out).cell i hlt
          have c2 := (H.out.below B.out).cell k hkl
          have hs : hasI xs (gi xs i) (k + 1) = (hasI xs (gi xs i) k || (gi xs i == gi xs k)) := rfl
          rw [HH.out, Bool.false_or] at hs
          have DI := Lib.hid (DF.out i hlt)
          have UP := Lib.hid (fun (e : gi xs i = gi xs k) => hasI_up hlk e)
          obtain ⟨x, hx⟩ : ∃ x, gi xs i = x := ⟨_, rfl⟩
          obtain ⟨y, hy⟩ : ∃ x, gi xs k = x := ⟨_, rfl⟩
          have HX := Lib.hid hx
          rw [hx] at c1
          rw [hy] at c2
          rw [hx, hy] at hs UP
          rw [hx] at DI
          by_cases e : x = y
          · have t : (x == y) = true := by simp [e]
            have HD := Lib.hid (DI.out (UP.out e))
            clear e hs hx hy
            go_wp2_with fail
            go_quiet (fail)
            go_wp2_with fail
            go_ret
            exact ⟨by rw [HD.out]; rfl, Below.drewN B.out _⟩
          · have t : (x == y) = false := by simpa using e
            rw [t] at hs
            have HS := Lib.hid hs
            clear e hs hx hy
            go_wp2_with fail
            go_quiet (fail)
            go_wp2_with fail
            go_roundw
            case rel => exact ⟨k + 1, by go_num, by omega, by rw [HX.out]; exact HS.out, Below.drewN B.out _⟩
            case measure => simp [intOf]; omega
        · obtain rfl : k = i := by omega
          go_wp2_with fail
          go_roundw
          case rel =>
            exact ⟨k + 1, by go_num, by omega, fun j hj => by
              by_cases e : j = k
              · subst e; exact HH.out
              · exact HA.out j (by omega), B.out⟩
          case measure => simp [intOf]; omega
    · have e : i = xs.length := by omega
      have HD := Lib.hid (DT.out (by rw [← e]; exact HA.out))
      clear e
      go_wp2_with fail
      go_ret
      exact ⟨by rw [HD.out]; rfl, B.out⟩

theorem curveOf_all (b o c b' o' c' : Nat) (xs ys : List Int) (w : World) (h : RowI w b o xs) (h' : RowI w b' o' ys) (hm : xs.length ≤ 1099511627776) (hm' : ys.length ≤ 1099511627776) (hcap : xs.length ≤ c) :
    Calls Try.prog 12 #[.slice (some ⟨b, o, none⟩) xs.length c, .slice (some ⟨b', o', none⟩) ys.length c'] w
      fun e w' => ∃ v, e = .returned v ∧ Mut 31 w' w.heap.size v (crV xs ys).length (fc (crV xs ys)) ∧ Below w.heap.size w w' := by
  cases hv : plB xs ys 5 with
  | false =>
    have e : crV xs ys = [] := by unfold crV crB; rw [hv]; rfl
    rw [e]
    have CC := Lib.hid (curve_no1 b o c b' o' c' xs ys w h h' hm hm' hv)
    clear h h' hv e
    go_enter Try.func12, Try.ntmps12
    go_wp2_with (go_at_call 45; refine CC.out.mono ?_; rintro e w1 ⟨rfl, hb⟩)
    go_ret
    exact ⟨_, rfl, Mut.nil _ _ _, hb⟩
  | true =>
    have hl : ys.length = xs.length := (pl_of (m := 5) hv).ne
    rw [hl]
    cases hf : dfB xs with
    | false =>
      have CC := Lib.hid (curve_pl b o c b' o' c' xs.length xs ys false w h h' hv rfl hcap hf)
      have e : crV xs ys = [] := by unfold crV crB; rw [hv, hf]; rfl
      rw [e]
      obtain ⟨n, hn⟩ : ∃ n, xs.length = n := ⟨_, rfl⟩
      rw [hn] at CC ⊢
      clear h h' hv e hl hf hn hcap hm hm'
      go_enter Try.func12, Try.ntmps12
      go_wp2_with (go_at_call 45; refine CC.out.mono ?_; rintro e w1 ⟨v, rfl, hr, hb⟩; have HR := Lib.hid hr; clear hr)
      go_ret
      rcases HR.out with ⟨_, rfl⟩ | ⟨h, _⟩
      · exact ⟨_, rfl, Mut.nil _ _ _, hb⟩
      · cases h
    | true =>
      have CC := Lib.hid (curve_pl b o c b' o' c' xs.length xs ys true w h h' hv rfl hcap hf)
      have e : crV xs ys = cvL xs ys xs.length := by unfold crV crB; rw [hv, hf]; rfl
      rw [e]
      obtain ⟨n, hn⟩ : ∃ n, xs.length = n := ⟨_, rfl⟩
      rw [hn] at CC ⊢
      have lc : (cvL xs ys n).length = n := tab_length _ _
      have LC := Lib.hid lc
      clear h h' hv e hl hf hn hcap hm hm' lc
      go_enter Try.func12, Try.ntmps12
      go_wp2_with (go_at_call 45; refine CC.out.mono ?_; rintro e w1 ⟨v, rfl, hr, hb⟩; have HR := Lib.hid hr; clear hr)
      go_ret
      rcases HR.out with ⟨h, _⟩ | ⟨_, g, rfl, hg, k⟩
      · cases h
      · exact ⟨_, rfl, .inr ⟨g, n, by rw [LC.out]; rfl, hg, k⟩, hb⟩

theorem vp_five (xs ys : List Int) : (vpB xs ys && inB xs.length 1 5) = plB xs ys 5 := by
  unfold vpB plB
  cases h1 : ((xs.length : Int) == (ys.length : Int)) <;> cases h2 : inB (xs.length : Int) 1 5 <;> cases h3 : allB xs (-12) 12 <;> cases h4 : allB ys (-12) 12 <;> simp
  have := inB_iff.1 h2
  omega

set_option maxHeartbeats 2000000 in
theorem scurveOf_all (b o c b' o' c' : Nat) (xs ys : List Int) (w : World) (h : RowI w b o xs) (h' : RowI w b' o' ys) (hm : xs.length ≤ 1048576) (hm' : ys.length ≤ 1048576) :
    Calls Try.prog 10 #[.slice (some ⟨b, o, none⟩) xs.length c, .slice (some ⟨b', o', none⟩) ys.length c'] w
      fun e w' => ∃ v, e = .returned v ∧ Mut 31 w' w.heap.size v (crV xs ys).length (fc (crV xs ys)) ∧ Below w.heap.size w w' := by
  have CV := Lib.hid (validPoints_any b o c b' o' c' xs ys w h h' (by omega) (by omega))
  have CD := Lib.hid (different_any b o c xs w h hm)
  have e5 := vp_five xs ys
  cases hv : vpB xs ys with
  | false =>
    rw [hv, Bool.false_and] at e5
    have e : crV xs ys = [] := by unfold crV crB; rw [← e5]; rfl
    rw [e]
    rw [hv] at CV
    clear h h' hv e e5
    go_enter Try.func10, Try.ntmps10
    go_wp2_with (go_at_call 41; refine CV.out.mono ?_; rintro e w1 ⟨rfl, rfl⟩)
    go_ret
    exact ⟨_, rfl, Mut.nil _ _ _, Below.refl _ _⟩
  | true =>
    cases hi : inB (xs.length : Int) 1 5 with
    | false =>
      rw [hv, hi] at e5
      have e : crV xs ys = [] := by unfold crV crB; rw [← e5]; rfl
      rw [e]
      rw [hv] at CV
      have IR := Lib.hid (fun w => hi ▸ inRange_any xs.length 1 5 w)
      clear h h' hv e e5 hi
      go_enter Try.func10, Try.ntmps10
      go_wp2_with (first
        | (go_at_call 41; refine CV.out.mono ?_; rintro e w1 ⟨rfl, rfl⟩)
        | (go_at_call 42; refine (IR.out _).mono ?_; rintro e w2 ⟨rfl, rfl⟩))
      go_ret
      exact ⟨_, rfl, Mut.nil _ _ _, Below.refl _ _⟩
    | true =>
      rw [hv, hi] at e5
      have hp : Pl xs ys 5 := pl_of (m := 5) e5.symm
      have IR := Lib.hid (fun w => hi ▸ inRange_any xs.length 1 5 w)
      rw [hv] at CV
      have hl := hp.ne
      have H := Lib.hid h
      have H' := Lib.hid h'
      cases hd : dfB xs with
      | false =>
        have e : crV xs ys = [] := by unfold crV crB; rw [hd, Bool.and_false]; rfl
        rw [e]
        rw [hd] at CD
        clear h h' hv e e5 hi hp hd hl
        go_enter Try.func10, Try.ntmps10
        go_wp2_with (first
          | (go_at_call 41; refine CV.out.mono ?_; rintro e w1 ⟨rfl, rfl⟩)
          | (go_at_call 42; refine (IR.out _).mono ?_; rintro e w2 ⟨rfl, rfl⟩)
          | (go_at_call 43; refine CD.out.mono ?_; rintro e w3 ⟨rfl, b3⟩))
        go_ret
        exact ⟨_, rfl, Mut.nil _ _ _, b3⟩
      | true =>
        have e : crV xs ys = cvL xs ys xs.length := by unfold crV crB; rw [← e5, hd]; rfl
        rw [e]
        rw [hd] at CD
        have CF := Lib.hid (fun w (h : RowI w b o xs) (h' : RowI w b' o' ys) => factors_any b o c b' o' c' xs.length xs ys w h h' hp (dfB_iff.1 hd) rfl)
        rw [hl] at CV ⊢
        obtain ⟨n, hn⟩ : ∃ n, xs.length = n := ⟨_, rfl⟩
        rw [hn] at CF CV CD IR ⊢
        have lc : (cvL xs ys n).length = n := tab_length _ _
        have LC := Lib.hid lc
        clear h h' hv e e5 hi hp hd hl lc hn hm hm'
        go_enter Try.func10, Try.ntmps10
        go_wp2_with (first
          | (go_at_call 41; refine CV.out.mono ?_; rintro e w1 ⟨rfl, rfl⟩)
          | (go_at_call 42; refine (IR.out _).mono ?_; rintro e w2 ⟨rfl, rfl⟩)
          | (go_at_call 43; refine CD.out.mono ?_; rintro e w3 ⟨rfl, b3⟩; have z3 := b3.size)
          | (go_at_call 44; refine (CF.out _ (H.out.below b3) (H'.out.below b3)).mono ?_; rintro e w4 ⟨g, cap, rfl, hg, k, b4⟩))
        go_ret
        exact ⟨_, rfl, .inr ⟨g, cap, by rw [LC.out]; rfl, by omega, k⟩, b3.trans (b4.mono z3)⟩

end Go.Proofs.Ytoioafadenniiaa
