/- The law laws.FnExactFarJoins returns true for all arguments, and changes no memory that was there. -/
import Derived.Test.YtclfjnoedcimiaaFarS
import Derived.Test.YtclfjnoedcimiaaMatM
namespace Go.Proofs.Ytclfjnoedcimiaa
open Go.RowKit

set_option maxHeartbeats 4000000 in
theorem FnExactFarJoins_main (v : Value) (xss : List (List Int)) (w : World) (ha : ArgM w v xss) (hn : xss.length ≤ 9223372036854775807) (hr : ∀ k, k < xss.length → (gl xss k).length ≤ 9223372036854775807) :
    Calls Try.prog 8 #[v] w fun e w' => e = .returned (.bool true) ∧ Below w.heap.size w w' := by
  have HA := Lib.hid ha
  have CZ := Lib.hid (szIntSS_any v xss w ha hn hr)
  obtain ⟨F, hF⟩ : ∃ F, jfV xss = F := ⟨_, rfl⟩
  obtain ⟨n, hfn⟩ : ∃ n, F.length = n := ⟨_, rfl⟩
  have hn2 : n ≤ 1048576 := by rw [← hfn, ← hF]; exact Nat.le_trans (jfV_le xss) (by omega)
  have HF := Lib.hid hF
  have HN := Lib.hid hfn
  clear ha hr hn hF hfn
  go_enter Try.func8, Try.ntmps8
  go_wp2_with fail
  refine CZ.out.mono ?_
  rintro e w1 ⟨r, rfl, hz, rfl⟩
  by_cases tr : r < 0
  · have t1 : decide (r < 0) = true := by simpa using tr
    clear tr hz
    go_wp2_with fail
    go_ret
    exact ⟨rfl, Below.refl _ _⟩
  · have t1 : decide (r < 0) = false := by simpa using tr
    obtain ⟨hn, hr⟩ := hz (by omega)
    have HR := Lib.hid hr
    have hol := oN_le hr xss.length (Nat.le_refl _)
    have t2 : decide (1 + (oN xss xss.length : Int) < 0) = false := by simp; omega
    clear tr hz hr CZ
    go_wp2_with fail
    refine (toIntSS_any v xss w HA.out hn HR.out).mono ?_
    rintro e w2 ⟨H2, rfl, m2, b2⟩
    have M2 := Lib.hid m2
    have z2 := b2.size
    have B2 := Lib.hid b2
    clear m2 b2
    go_wp2_with fail
    refine (sfarJoins_any _ H2 xss w2 M2.out hn).mono ?_
    rintro e w3 ⟨v5, rfl, m5, b3⟩
    rw [HF.out, HN.out] at m5
    have M5 := Lib.hid (MutB.of m5)
    have z3 := b3.size
    have B3 := Lib.hid (B2.out.trans (b3.mono z2))
    clear b3 B2 M2 m5
    go_wp2_with fail
    refine (toIntSS_own v xss w3 (HA.out.below B3.out) hn HR.out).mono ?_
    rintro e w4 ⟨H4, rfl, m4, b4⟩
    have z4 := b4.size
    have K4 := Lib.hid m4
    have M5 := Lib.hid (M5.out.below b4)
    have B4 := Lib.hid (B3.out.trans (b4.mono (by omega)))
    clear m4 b4 B3
    go_wp2_with fail
    refine (farJoins_any _ H4 xss w4 K4.out.mat hn).mono ?_
    rintro e w5 ⟨v8, rfl, m8, b5⟩
    rw [HF.out, HN.out] at m8
    have M8 := Lib.hid (MutB.of m8)
    have z5 := b5.size
    have K4 := Lib.hid (K4.out.below b5)
    have M5 := Lib.hid (M5.out.below b5)
    have B5 := Lib.hid (B4.out.trans (b5.mono (by omega)))
    clear b5 B4 m8
    go_wp2_with fail
    refine (eqJoinS_any _ _ _ _ n F _ M8.out.mut M5.out.mut HN.out hn2).mono ?_
    rintro e w6 ⟨rfl, b6⟩
    have z6 := b6.size
    have K4 := Lib.hid (K4.out.below b6)
    have M5 := Lib.hid (M5.out.below b6)
    have M8 := Lib.hid (M8.out.below b6)
    have B6 := Lib.hid (B5.out.trans (b6.mono (by omega)))
    clear b6 B5
    go_wp2_with fail
    refine (toIntSS_any v xss w6 (HA.out.below B6.out) hn HR.out).mono ?_
    rintro e w7 ⟨H7, rfl, m7, b7⟩
    have z7 := b7.size
    have M7 := Lib.hid m7
    have K4 := Lib.hid (K4.out.below b7)
    have M5 := Lib.hid (M5.out.below b7)
    have M8 := Lib.hid (M8.out.below b7)
    have B7 := Lib.hid (B6.out.trans (b7.mono (by omega)))
    clear m7 b7 B6
    go_wp2_with fail
    refine (eqIntSS_any _ _ H4 H7 xss w7 K4.out.mat M7.out hn HR.out).mono ?_
    rintro e w8 ⟨rfl, b8⟩
    have z8 := b8.size
    have K4 := Lib.hid (K4.out.below b8)
    have M5 := Lib.hid (M5.out.below b8)
    have M8 := Lib.hid (M8.out.below b8)
    have B8 := Lib.hid (B7.out.trans (b8.mono (by omega)))
    clear b8 B7 M7
    go_wp2_with fail
    refine (markIntSS_any _ _ _ H4 xss w8 K4.out hn HR.out).mono ?_
    rintro e w9 ⟨rfl, _, c9⟩
    have z9 := c9.size
    have M5 := Lib.hid (M5.out.chg c9 (by omega))
    have M8 := Lib.hid (M8.out.chg c9 (by omega))
    have B9 := Lib.hid (B8.out.trans (c9.below (B := w.heap.size) (by omega) (by omega)))
    clear c9 B8 K4
    go_wp2_with fail
    refine (eqJoinS_any _ _ _ _ n F _ M8.out.mut M5.out.mut HN.out hn2).mono ?_
    rintro e w10 ⟨rfl, b10⟩
    have z10 := b10.size
    have M5 := Lib.hid (M5.out.below b10)
    have M8 := Lib.hid (M8.out.below b10)
    have B10 := Lib.hid (B9.out.trans (b10.mono (by omega)))
    clear b10 B9
    go_wp2_with fail
    refine (markJoinS_mut _ _ n _ F _ M8.out HN.out hn2).mono ?_
    rintro e w11 ⟨rfl, m8, c11⟩
    have z11 := c11.size
    have M8 := Lib.hid m8
    have M5 := Lib.hid (M5.out.chg c11 (by omega))
    have B11 := Lib.hid (B10.out.trans (c11.below (B := w.heap.size) (by omega) (by omega)))
    clear c11 B10 m8
    go_wp2_with fail
    refine (heldJoinS_mut _ _ n _ _ M8.out hn2).mono ?_
    rintro e w12 ⟨rfl, rfl⟩
    have hq0 : decide (1 + ((n * 3 : Nat) : Int) < 0) = false := by simp; omega
    have hq1 : (1 + ((n * 3 : Nat) : Int) != 1 + ((n * 3 : Nat) : Int)) = false := by simp
    go_wp2_with fail
    refine (toIntSS_any v xss _ (HA.out.below B11.out) hn HR.out).mono ?_
    rintro e w13 ⟨H13, rfl, m13, b13⟩
    have z13 := b13.size
    have M13 := Lib.hid m13
    have M5 := Lib.hid (M5.out.below b13)
    have M8 := Lib.hid (M8.out.below b13)
    have B13 := Lib.hid (B11.out.trans (b13.mono (by omega)))
    clear m13 b13 B11
    go_wp2_with fail
    refine (farJoins_any _ H13 xss w13 M13.out hn).mono ?_
    rintro e w14 ⟨v12, rfl, m12, b14⟩
    rw [HF.out, HN.out] at m12
    have M12 := Lib.hid m12
    have z14 := b14.size
    have M5 := Lib.hid (M5.out.below b14)
    have M8 := Lib.hid (M8.out.below b14)
    have B14 := Lib.hid (B13.out.trans (b14.mono (by omega)))
    clear b14 B13 M13 m12
    go_wp2_with fail
    refine (eqJoinS_any _ _ _ _ n F _ M12.out M5.out.mut HN.out hn2).mono ?_
    rintro e w15 ⟨rfl, b15⟩
    have z15 := b15.size
    have M8 := Lib.hid (M8.out.below b15)
    have B15 := Lib.hid (B14.out.trans (b15.mono (by omega)))
    clear b15 B14
    go_wp2_with fail
    refine (heldJoinS_mut _ _ n _ _ M8.out hn2).mono ?_
    rintro e w16 ⟨rfl, rfl⟩
    go_wp2_with fail
    go_ret
    exact ⟨rfl, B15.out⟩

end Go.Proofs.Ytclfjnoedcimiaa
