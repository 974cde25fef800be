/- The law laws.FnExactCurveOf returns true for all arguments, and changes no memory that was there. -/
import Derived.Test.YtoioafadenniiaaCurA
import Derived.Test.YtoioafadenniiaaLaw
namespace Go.Proofs.Ytoioafadenniiaa
open Go.RowKit

set_option maxHeartbeats 4000000 in
theorem FnExactCurveOf_main (a b : Value) (xs ws : List Int) (w : World) (ha : ArgI w a xs) (hb : ArgI w b ws) (hl : xs.length ≤ 1048576) (hl' : ws.length ≤ 1048576) (ca cb : Nat) (ad bd : Option Addr)
    (hav : a = .slice ad xs.length ca) (hbv : b = .slice bd ws.length cb) :
    Calls Try.prog 3 #[a, b] w fun e w' => e = .returned (.bool true) ∧ Below w.heap.size w w' := by
  have HA := Lib.hid ha
  have HB := Lib.hid hb
  obtain ⟨F, hF⟩ : ∃ F, crV xs ws = F := ⟨_, rfl⟩
  obtain ⟨n, hn⟩ : ∃ n, F.length = n := ⟨_, rfl⟩
  have hn2 : n ≤ 1048576 := by rw [← hn, ← hF]; exact crV_le hl
  have HF := Lib.hid hF
  have HN := Lib.hid hn
  clear ha hb hF hn
  subst hav hbv
  go_enter Try.func3, Try.ntmps3
  go_wp2_with fail
  refine (toIntS_any _ xs _ HA.out hl).mono ?_
  rintro e w1 ⟨rfl, k1, b1⟩
  have K1 := Lib.hid k1; clear k1
  have z1 := b1.size
  go_wp2_with fail
  refine (toIntS_any _ ws _ (HB.out.below b1) hl').mono ?_
  rintro e w2 ⟨rfl, k2, b2⟩
  have K2 := Lib.hid k2; clear k2
  have z2 := b2.size
  go_wp2_with fail
  refine (scurveOf_all _ 0 _ _ 0 _ xs ws _ (K1.out.below b2).row K2.out.row (by omega) (by omega)).mono ?_
  rintro e w3 ⟨v5, rfl, m5, b3⟩
  rw [HF.out, HN.out] at m5
  have M5 := Lib.hid (MutB.of m5); clear m5
  have z3 := b3.size
  have B3 : Below w.heap.size w w3 := (b1.trans (b2.mono z1)).trans (b3.mono (by omega))
  clear K1 K2 b1 b2 b3
  go_wp2_with fail
  refine (toIntS_any _ xs _ (HA.out.below B3) hl).mono ?_
  rintro e w4 ⟨rfl, k6, b4⟩
  have K6 := Lib.hid k6; clear k6
  have z4 := b4.size
  have B4 : Below w.heap.size w w4 := B3.trans (b4.mono (by omega))
  have M5 := Lib.hid (M5.out.below b4)
  go_wp2_with fail
  refine (toIntS_any _ ws _ (HB.out.below B4) hl').mono ?_
  rintro e w5 ⟨rfl, k7, b5⟩
  have K7 := Lib.hid k7; clear k7
  have z5 := b5.size
  have l6 := K6.out.lt
  have K6 := Lib.hid (K6.out.below b5)
  have M5 := Lib.hid (M5.out.below b5)
  have B5 : Below w.heap.size w w5 := B4.trans (b5.mono (by omega))
  go_wp2_with fail
  refine (curveOf_all _ 0 _ _ 0 _ xs ws _ K6.out.row K7.out.row (by omega) (by omega) (Nat.le_refl _)).mono ?_
  rintro e w6 ⟨v8, rfl, m8, b6⟩
  rw [HF.out, HN.out] at m8
  have M8 := Lib.hid (MutB.of m8); clear m8
  have z6 := b6.size
  have l7 := K7.out.lt
  have K6 := Lib.hid (K6.out.below b6)
  have K7 := Lib.hid (K7.out.below b6)
  have M5 := Lib.hid (M5.out.below b6)
  have B6 : Below w.heap.size w w6 := B5.trans (b6.mono (by omega))
  clear B3 B4 B5 b4 b5 b6
  go_wp2_with fail
  refine (eqFracS_any _ _ _ _ n F _ M8.out.mut M5.out.mut HN.out hn2).mono ?_
  rintro e w7 ⟨rfl, b7⟩
  have z7 := b7.size
  have K6 := Lib.hid (K6.out.below b7)
  have K7 := Lib.hid (K7.out.below b7)
  have M5 := Lib.hid (M5.out.below b7)
  have M8 := Lib.hid (M8.out.below b7)
  have B7 : Below w.heap.size w w7 := B6.trans (b7.mono (by omega))
  clear B6 b7
  go_wp2_with fail
  refine (toIntS_any _ xs _ (HA.out.below B7) hl).mono ?_
  rintro e w8 ⟨rfl, k9, b8⟩
  have K9 := Lib.hid k9; clear k9
  have z8 := b8.size
  have K6 := Lib.hid (K6.out.below b8)
  have K7 := Lib.hid (K7.out.below b8)
  have M5 := Lib.hid (M5.out.below b8)
  have M8 := Lib.hid (M8.out.below b8)
  have B8 : Below w.heap.size w w8 := B7.trans (b8.mono (by omega))
  clear B7 b8
  go_wp2_with fail
  refine (eqIntS_any _ _ xs _ (.inr ⟨_, 0, _, rfl, K6.out.row⟩) (.inr ⟨_, 0, _, rfl, K9.out.row⟩) hl).mono ?_
  rintro e w9 ⟨rfl, b9⟩
  have z9 := b9.size
  have K6 := Lib.hid (K6.out.below b9)
  have K7 := Lib.hid (K7.out.below b9)
  have M5 := Lib.hid (M5.out.below b9)
  have M8 := Lib.hid (M8.out.below b9)
  have B9 : Below w.heap.size w w9 := B8.trans (b9.mono (by omega))
  clear B8 b9 K9
  go_wp2_with fail
  refine (toIntS_any _ ws _ (HB.out.below B9) hl').mono ?_
  rintro e w10 ⟨rfl, k9, b10⟩
  have K9 := Lib.hid k9; clear k9
  have z10 := b10.size
  have K6 := Lib.hid (K6.out.below b10)
  have K7 := Lib.hid (K7.out.below b10)
  have M5 := Lib.hid (M5.out.below b10)
  have M8 := Lib.hid (M8.out.below b10)
  have B10 : Below w.heap.size w w10 := B9.trans (b10.mono (by omega))
  clear B9 b10
  go_wp2_with fail
  refine (eqIntS_any _ _ ws _ (.inr ⟨_, 0, _, rfl, K7.out.row⟩) (.inr ⟨_, 0, _, rfl, K9.out.row⟩) hl').mono ?_
  rintro e w11 ⟨rfl, b11⟩
  have z11 := b11.size
  have K6 := Lib.hid (K6.out.below b11)
  have K7 := Lib.hid (K7.out.below b11)
  have M5 := Lib.hid (M5.out.below b11)
  have M8 := Lib.hid (M8.out.below b11)
  have B11 : Below w.heap.size w w11 := B10.trans (b11.mono (by omega))
  clear B10 b11 K9
  go_wp2_with fail
  refine (markIntS_any _ _ xs.length _ 1 _ K6.out (ic_length xs) hl (by omega) (by omega)).mono ?_
  rintro e w12 ⟨rfl, g12⟩
  have c12 : Chg w3.heap.size w4.heap.size w11 w12 := Chg.of_grown g12 (Nat.le_refl _) l6
  have z12 := c12.size
  have K7 := Lib.hid (K7.out.chg c12 (by omega))
  have M5 := Lib.hid (M5.out.chg c12 (by omega))
  have M8 := Lib.hid (M8.out.chg c12 (by omega))
  have B12 : Below w.heap.size w w12 := B11.trans (c12.below (by omega) (by omega))
  clear B11 c12 g12 K6
  go_wp2_with fail
  refine (markIntS_any _ _ ws.length _ _ _ K7.out (ic_length ws) hl' (by omega) (by omega)).mono ?_
  rintro e w13 ⟨rfl, g13⟩
  have c13 : Chg w4.heap.size w5.heap.size w12 w13 := Chg.of_grown g13 (Nat.le_refl _) l7
  have z13 := c13.size
  have M5 := Lib.hid (M5.out.chg c13 (by omega))
  have M8 := Lib.hid (M8.out.chg c13 (by omega))
  have B13 : Below w.heap.size w w13 := B12.trans (c13.below (by omega) (by omega))
  clear B12 c13 g13 K7
  have hk : decide (1 + (xs.length : Int) + (ws.length : Int) < 0) = false := by simp; omega
  go_wp2_with fail
  refine (eqFracS_any _ _ _ _ n F _ M8.out.mut M5.out.mut HN.out hn2).mono ?_
  rintro e w14 ⟨rfl, b14⟩
  have z14 := b14.size
  have M5 := Lib.hid (M5.out.below b14)
  have M8 := Lib.hid (M8.out.below b14)
  have B14 : Below w.heap.size w w14 := B13.trans (b14.mono (by omega))
  clear B13 b14
  go_wp2_with fail
  refine (markFracS_mut _ _ n _ F _ M8.out HN.out hn2).mono ?_
  rintro e w15 ⟨rfl, m8, c15⟩
  have z15 := c15.size
  have M8 := Lib.hid m8
  have M5 := Lib.hid (M5.out.chg c15 (by omega))
  have B15 : Below w.heap.size w w15 := B14.trans (c15.below (by omega) (by omega))
  clear B14 c15 m8
  go_wp2_with fail
  refine (heldFracS_mut _ _ n _ _ M8.out hn2).mono ?_
  rintro e w16 ⟨rfl, rfl⟩
  have hq0 : decide (1 + ((n * 2 : Nat) : Int) < 0) = false := by simp; omega
  have hq1 : (1 + ((n * 2 : Nat) : Int) != 1 + ((n * 2 : Nat) : Int)) = false := by simp
  go_wp2_with fail
  refine (toIntS_any _ xs _ (HA.out.below B15) hl).mono ?_
  rintro e w17 ⟨rfl, k1, b17⟩
  have K1 := Lib.hid k1; clear k1
  have z17 := b17.size
  have M5 := Lib.hid (M5.out.below b17)
  have M8 := Lib.hid (M8.out.below b17)
  have B17 : Below w.heap.size w w17 := B15.trans (b17.mono (by omega))
  clear B15 b17
  go_wp2_with fail
  refine (toIntS_any _ ws _ (HB.out.below B17) hl').mono ?_
  rintro e w18 ⟨rfl, k2, b18⟩
  have K2 := Lib.hid k2; clear k2
  have z18 := b18.size
  have K1 := Lib.hid (K1.out.below b18)
  have M5 := Lib.hid (M5.out.below b18)
  have M8 := Lib.hid (M8.out.below b18)
  have B18 : Below w.heap.size w w18 := B17.trans (b18.mono (by omega))
  clear B17 b18
  go_wp2_with fail
  refine (curveOf_all _ 0 _ _ 0 _ xs ws _ K1.out.row K2.out.row (by omega) (by omega) (Nat.le_refl _)).mono ?_
  rintro e w19 ⟨v12, rfl, m12, b19⟩
  rw [HF.out, HN.out] at m12
  have M12 := Lib.hid m12; clear m12
  have z19 := b19.size
  have M5 := Lib.hid (M5.out.below b19)
  have M8 := Lib.hid (M8.out.below b19)
  have B19 : Below w.heap.size w w19 := B18.trans (b19.mono (by omega))
  clear B18 b19 K1 K2
  go_wp2_with fail
  refine (eqFracS_any _ _ _ _ n F _ M12.out M5.out.mut HN.out hn2).mono ?_
  rintro e w20 ⟨rfl, b20⟩
  have z20 := b20.size
  have M8 := Lib.hid (M8.out.below b20)
  have B20 : Below w.heap.size w w20 := B19.trans (b20.mono (by omega))
  clear B19 b20
  go_wp2_with fail
  refine (heldFracS_mut _ _ n _ _ M8.out hn2).mono ?_
  rintro e w21 ⟨rfl, rfl⟩
  go_wp2_with fail
  go_ret
  exact ⟨rfl, B20⟩

set_option maxHeartbeats 1000000 in
theorem FnExactCurveOf_long (ad bd : Option Addr) (la lb ca cb : Nat) (w : World) (h : 1048576 < la ∨ 1048576 < lb) (h1 : la ≤ 9223372036854775807) (h2 : lb ≤ 9223372036854775807) :
    Calls Try.prog 3 #[.slice ad la ca, .slice bd lb cb] w fun e w' => e = .returned (.bool true) ∧ Below w.heap.size w w' := by
  by_cases hla : 1048576 < la
  · go_enter Try.func3, Try.ntmps3
    go_wp2_with fail
    go_ret
    exact ⟨rfl, Below.refl _ _⟩
  · have hlb : 1048576 < lb := by omega
    go_enter Try.func3, Try.ntmps3
    go_wp2_with fail
    go_ret
    exact ⟨rfl, Below.refl _ _⟩

end Go.Proofs.Ytoioafadenniiaa
