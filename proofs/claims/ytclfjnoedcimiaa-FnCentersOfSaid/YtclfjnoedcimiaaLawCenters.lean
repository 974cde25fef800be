/- The law laws.FnCentersOf returns true for all codes, and changes no memory that was there. -/
import Derived.Test.YtclfjnoedcimiaaGapDraw
import Derived.Test.YtclfjnoedcimiaaCenS
namespace Go.Proofs.Ytclfjnoedcimiaa
open Go.RowKit

theorem cnt_half : ∀ s, s < 64 → cntN s 6 = s % 2 + cntN (s / 2) 6 := by decide +kernel
theorem cnt_le : ∀ s, s < 64 → cntN s 6 ≤ 6 := by decide +kernel

set_option maxHeartbeats 4000000 in
theorem FnCentersOf_main (ad : Option Addr) (n c : Nat) (w : World) (h : CodeB w w.heap.size ad n) (hn : n ≤ 1048576) (hc : n ≤ c) :
    Calls Try.prog 3 #[.slice ad n c] w fun e w' => e = .returned (.bool true) ∧ Below w.heap.size w w' := by
  have H := Lib.hid h
  clear h
  go_enter Try.func3, Try.ntmps3
  go_wp2_with fail
  refine (drawCentersOf_any ad n c w H.out (by omega) hc).mono ?_
  rintro e w2 ⟨v, kk, rfl, hkk, g, cg, Hf, Cf, xss, rfl, hl, hm, hb2⟩
  have HM := Lib.hid hm
  have HB := Lib.hid hb2
  have z2 := hb2.size
  clear hm hb2
  have CI := Lib.hid (fun w k (h : MatC w g Hf Cf xss) => centers_anyC g cg Hf Cf xss k w h (by omega))
  have CS := Lib.hid (fun w k (h : MatC w g Hf Cf xss) => scenters_anyC g cg Hf Cf xss k w h (by omega))
  have HL := Lib.hid hl
  cases hgd : (gpB xss && inB kk 1 xss.length) with
  | false =>
    have e0 := cenV_bad (k := kk) hgd
    have CI := Lib.hid (fun w h => e0 ▸ CI.out w kk h)
    have CS := Lib.hid (fun w h => e0 ▸ CS.out w kk h)
    clear hgd e0
    obtain ⟨m, hmm⟩ : ∃ m, xss.length = m := ⟨_, rfl⟩
    rw [hmm] at CI CS ⊢
    clear hmm
    go_wp2_with (first
      | (go_at_call 10; refine (CI.out _ HM.out).mono ?_; rintro e w3 ⟨rfl, b3⟩)
      | (go_at_call 11; refine (CS.out _ (HM.out.below b3)).mono ?_; rintro e w4 ⟨rfl, b4⟩))
    go_ret
    exact ⟨rfl, (HB.out.trans (b3.mono z2)).trans (b4.mono (by have := b3.size; omega))⟩
  | true =>
    simp only [Bool.and_eq_true] at hgd
    obtain ⟨hv, hi⟩ := hgd
    have hi := inB_iff.1 hi
    obtain ⟨k, rfl⟩ : ∃ k : Nat, kk = (k : Int) := ⟨kk.toNat, by omega⟩
    obtain ⟨b, b1, b2, b3, b4⟩ := cenV_good (k := k) hv (by omega) (by omega)
    have hmore := cenV_more (k := k) hv (by omega) (by omega)
    have n6 := (gp_of hv).n6
    have hsb := smI_in (gp_of hv) b xss.length (Nat.le_refl _)
    have hp := (pow_six n6).2
    have hc6 := cnt6 xss.length (by omega) b b1
    rw [b2] at hc6
    have HC6 := Lib.hid hc6
    rw [b3] at hmore
    obtain ⟨y, hy⟩ : ∃ y, smI xss b xss.length xss.length = y := ⟨_, rfl⟩
    rw [hy] at hmore b3 hsb
    obtain ⟨y2, hy2⟩ : ∃ y, (cenV xss ((k : Int) + 1)).2 = y := ⟨_, rfl⟩
    obtain ⟨x2, hx2⟩ : ∃ y, (cenV xss ((k : Int) + 1)).1 = y := ⟨_, rfl⟩
    rw [hy2] at hmore
    have CJ := Lib.hid (fun w h => CI.out w ((k : Int) + 1) h)
    rw [hx2, hy2] at CJ
    have CI := Lib.hid (fun w h => b3 ▸ CI.out w (k : Int) h)
    have CS := Lib.hid (fun w h => b3 ▸ CS.out w (k : Int) h)
    have m1 : decide (y2 ≤ y) = true := by simpa using hmore.1
    have m2 := Lib.hid hmore.2.2
    have q1 : IntKind.i64.wrap ((k : Int) + 1) = (k : Int) + 1 := IntWalk.i64_in _ (by omega)
    have t1 : decide ((b : Int) < 0) = false := by simp
    have hkb : k ≤ xss.length := by omega
    have hbl : b < 64 := by omega
    clear hv b2 b3 b4 b1 hmore hy hy2 hx2 hc6 hsb hp n6 hl
    obtain ⟨m, hmm⟩ : ∃ m, xss.length = m := ⟨_, rfl⟩
    rw [hmm] at CI CS CJ m2 hkb ⊢
    clear hmm hi hkk
    go_upto_region 5 with (go_at_call 10; refine (CI.out _ HM.out).mono ?_; rintro e w3 ⟨rfl, b3⟩)
    have HM3 := Lib.hid (HM.out.below b3)
    have z3 := b3.size
    go_upto_region 6 with (go_at_call 11; refine (CS.out _ HM3.out).mono ?_; rintro e w4 ⟨rfl, b4⟩)
    have HM4 := Lib.hid (HM3.out.below b4)
    have z4 := b4.size
    clear CI CS
    go_upto_region 9 with (go_at_call 10; refine (CJ.out _ HM4.out).mono ?_; rintro e w5 ⟨rfl, b5⟩)
    have z5 := b5.size
    have HB5 := Lib.hid ((HB.out.trans (b3.mono z2)).trans ((b4.mono (by omega)).trans (b5.mono (by omega))))
    clear b3 b4 b5 HB HM
    go_wp2_with fail
    go_loop [11, 12] (fun v11 v12 => ∃ s acc : Nat, v12 = .int .i64 s ∧ v11 = .int .i64 acc ∧ s < 64 ∧ acc + cntN s 6 = k ∧ k ≤ 6) (fun _ v12 => (intOf v12).toNat)
    case atStart => exact ⟨b, 0, rfl, rfl, hbl, by rw [HC6.out, Nat.zero_add], by have := HL.out; have := cnt_le b hbl; rw [HC6.out] at this; exact this⟩
    case round =>
      obtain ⟨s, acc, rfl, rfl, hs, hac, hk6⟩ := hrel
      have HA := Lib.hid hac
      by_cases hs0 : 0 < s
      · have ch := cnt_half s hs
        have d1 : decide ((s : Int) > 0) = true := by simp; omega
        have d2 : decide ((0 : Int) < (s : Int)) = true := by simp; omega
        have q3 : (s : Int).tmod 2 = ((s % 2 : Nat) : Int) := rfl
        have q4 : (s : Int).tdiv 2 = ((s / 2 : Nat) : Int) := by rw [Int.tdiv_eq_ediv_of_nonneg (by omega)]; rfl
        obtain ⟨r, hr⟩ : ∃ r, s % 2 = r := ⟨_, rfl⟩
        obtain ⟨d, hd⟩ : ∃ r, s / 2 = r := ⟨_, rfl⟩
        have hr2 : r < 2 := by omega
        have hd2 : d < s := by omega
        rw [hr, hd] at ch
        rw [hr] at q3
        rw [hd] at q4
        have q5 : IntKind.i64.wrap ((acc : Int) + (r : Int)) = ((acc + r : Nat) : Int) := by rw [IntWalk.i64_in _ (by omega)]; omega
        have q6 : IntKind.i64.wrap (r : Int) = (r : Int) := IntWalk.i64_in _ (by omega)
        have q7 : IntKind.i64.wrap (d : Int) = (d : Int) := IntWalk.i64_in _ (by omega)
        have CH := Lib.hid ch
        clear ch hr hd hac
        go_wp2_with fail
        go_round
        case rel => exact ⟨d, acc + r, rfl, by first | rfl | simp, by omega, by have := HA.out; have := CH.out; omega, hk6⟩
        case measure => simp [intOf]; omega
      · obtain rfl : s = 0 := by omega
        have e : acc = k := by rw [← hac]; rfl
        have HE := Lib.hid e
        clear e hac
        have d3 : ((acc : Int) == (k : Int)) = true := by rw [HE.out]; simp
        by_cases hkm : k < m
        · have d4 : decide ((k : Int) < (m : Int)) = true := by simp; omega
          go_wp2_with fail
          go_ret
          exact ⟨rfl, HB5.out⟩
        · have hy0 := m2.out (by omega)
          have d4 : decide ((k : Int) < (m : Int)) = false := by simp; omega
          have d5 : (y == 0) = true := by simp [hy0]
          clear hy0
          go_wp2_with fail
          go_ret
          exact ⟨rfl, HB5.out⟩

set_option maxHeartbeats 400000 in
theorem FnCentersOf_long (ad : Option Addr) (n c : Nat) (w : World) (h : 1048576 < n) (h1 : n ≤ 9223372036854775807) :
    Calls Try.prog 3 #[.slice ad n c] w fun e w' => e = .returned (.bool true) ∧ Below w.heap.size w w' := by
  go_enter Try.func3, Try.ntmps3
  go_wp2_with fail
  go_ret
  exact ⟨rfl, Below.refl _ _⟩

end Go.Proofs.Ytclfjnoedcimiaa
