/- The law laws.FnExactClosedBy returns true for all arguments, and changes no memory that was there. -/
import Derived.Test.YtjkadlmlkcanpaaClosedBy
import Derived.Test.YtjkadlmlkcanpaaLawI
namespace Go.Proofs.Ytjkadlmlkcanpaa
open Go.RowKit

set_option maxHeartbeats 4000000 in
theorem FnExactClosedBy_main (a : Value) (xs : List Int) (w : World) (ha : ArgI w a xs) (hl : xs.length ≤ 1048576) (ca : Nat) (ad : Option Addr) (hav : a = .slice ad xs.length ca) (level : Int) (k : ByteArray) (ko : Option Bool) (hko : KindO k ko) (hks : k.size ≤ 1048576) :
    Calls Try.prog 12 #[a, .int .i64 level, .string k] w fun e w' => e = .returned (.bool true) ∧ Below w.heap.size w w' := by
  have HA := Lib.hid ha
  have HKO := Lib.hid hko
  obtain ⟨F, hF⟩ : ∃ F, cbV xs level ko = F := ⟨_, rfl⟩
  obtain ⟨n, hn⟩ : ∃ n, F.length = n := ⟨_, rfl⟩
  have hn2 : n ≤ 1048576 := by rw [← hn, ← hF]; exact cbV_le xs level ko hl
  have hn3 : F.length ≤ 1048576 := by omega
  have HF := Lib.hid hF
  have HN := Lib.hid hn
  have HN3 := Lib.hid hn3
  clear ha hF hn hn3 hko
  subst hav
  go_enter Try.func12, Try.ntmps12
  go_wp2_with fail
  refine (toIntS_any _ xs _ HA.out hl).mono ?_
  rintro e w1 ⟨rfl, k1, b1⟩
  have K1 := Lib.hid k1; clear k1
  have z1 := b1.size
  go_wp2_with fail
  refine (sclosedBy_any _ 0 _ xs level k ko HKO.out _ K1.out.row (by omega)).mono ?_
  rintro e w3 ⟨v5, rfl, m5, b3⟩
  rw [HF.out, HN.out] at m5
  have M5 := Lib.hid (MutB.of m5); clear m5
  have z3 := b3.size
  have B3 : Below w.heap.size w w3 := b1.trans (b3.mono z1)
  clear K1 b1 b3
  go_wp2_with fail
  refine (toIntS_any _ xs _ (HA.out.below B3) hl).mono ?_
  rintro e w4 ⟨rfl, k6, b4⟩
  have K6 := Lib.hid k6; clear k6
  have z4 := b4.size
  have l6 := K6.out.lt
  have B4 : Below w.heap.size w w4 := B3.trans (b4.mono (by omega))
  have M5 := Lib.hid (M5.out.below b4)
  clear B3 b4
  go_wp2_with fail
  refine (closedBy_any _ 0 _ xs level k ko HKO.out _ K6.out.row (by omega)).mono ?_
  rintro e w6 ⟨v8, rfl, m8, b6⟩
  rw [HF.out, HN.out] at m8
  have M8 := Lib.hid (MutB.of m8); clear m8
  have z6 := b6.size
  have K6 := Lib.hid (K6.out.below b6)
  have M5 := Lib.hid (M5.out.below b6)
  have B6 : Below w.heap.size w w6 := B4.trans (b6.mono (by omega))
  clear B4 b6
  go_wp2_with fail
  refine (eqIntS_any _ _ F _ (M8.out.mut.arg HN.out.symm) (M5.out.mut.arg HN.out.symm) HN3.out).mono ?_
  rintro e w7 ⟨rfl, b7⟩
  have z7 := b7.size
  have K6 := Lib.hid (K6.out.below b7)
  have M5 := Lib.hid (M5.out.below b7)
  have M8 := Lib.hid (M8.out.below b7)
  have B7 : Below w.heap.size w w7 := B6.trans (b7.mono (by omega))
  clear B6 b7
  go_wp2_with fail
  refine (toIntS_any _ xs _ (HA.out.below B7) hl).mono ?_
  rintro e w8 ⟨rfl, k9, b8⟩
  have K9 := Lib.hid k9; clear k9
  have z8 := b8.size
  have K6 := Lib.hid (K6.out.below b8)
  have M5 := Lib.hid (M5.out.below b8)
  have M8 := Lib.hid (M8.out.below b8)
  have B8 : Below w.heap.size w w8 := B7.trans (b8.mono (by omega))
  clear B7 b8
  go_wp2_with fail
  refine (eqIntS_any _ _ xs _ (.inr ⟨_, 0, _, rfl, K6.out.row⟩) (.inr ⟨_, 0, _, rfl, K9.out.row⟩) hl).mono ?_
  rintro e w9 ⟨rfl, b9⟩
  have z9 := b9.size
  have K6 := Lib.hid (K6.out.below b9)
  have M5 := Lib.hid (M5.out.below b9)
  have M8 := Lib.hid (M8.out.below b9)
  have B9 : Below w.heap.size w w9 := B8.trans (b9.mono (by omega))
  clear B8 b9 K9
  go_wp2_with fail
  refine (markIntS_any _ _ xs.length _ 1 _ K6.out (ic_length xs) hl (by omega) (by omega)).mono ?_
  rintro e w12 ⟨rfl, g12⟩
  have c12 : Chg w3.heap.size w4.heap.size w9 w12 := Chg.of_grown g12 (Nat.le_refl _) l6
  have z12 := c12.size
  have M5 := Lib.hid (M5.out.chg c12 (by omega))
  have M8 := Lib.hid (M8.out.chg c12 (by omega))
  have B12 : Below w.heap.size w w12 := B9.trans (c12.below (by omega) (by omega))
  clear B9 c12 g12 K6
  have hk : decide (1 + (xs.length : Int) < 0) = false := by simp; omega
  go_wp2_with fail
  refine (eqIntS_any _ _ F _ (M8.out.mut.arg HN.out.symm) (M5.out.mut.arg HN.out.symm) HN3.out).mono ?_
  rintro e w14 ⟨rfl, b14⟩
  have z14 := b14.size
  have M5 := Lib.hid (M5.out.below b14)
  have M8 := Lib.hid (M8.out.below b14)
  have B14 : Below w.heap.size w w14 := B12.trans (b14.mono (by omega))
  clear B12 b14
  go_wp2_with fail
  refine (markIntS_mut _ _ n _ _ _ M8.out (by rw [ic_length]; exact HN.out) hn2).mono ?_
  rintro e w15 ⟨rfl, m8, c15⟩
  have z15 := c15.size
  have M8 := Lib.hid m8
  have M5 := Lib.hid (M5.out.chg c15 (by omega))
  have B15 : Below w.heap.size w w15 := B14.trans (c15.below (by omega) (by omega))
  clear B14 c15 m8
  go_wp2_with fail
  refine (heldIntS_mut _ _ n _ _ M8.out hn2).mono ?_
  rintro e w16 ⟨rfl, rfl⟩
  have hq0 : decide (1 + (n : Int) < 0) = false := by simp; omega
  have hq1 : (1 + (n : Int) != 1 + (n : Int)) = false := by simp
  go_wp2_with fail
  refine (toIntS_any _ xs _ (HA.out.below B15) hl).mono ?_
  rintro e w17 ⟨rfl, k1, b17⟩
  have K1 := Lib.hid k1; clear k1
  have z17 := b17.size
  have M5 := Lib.hid (M5.out.below b17)
  have M8 := Lib.hid (M8.out.below b17)
  have B17 : Below w.heap.size w w17 := B15.trans (b17.mono (by omega))
  clear B15 b17
  go_wp2_with fail
  refine (closedBy_any _ 0 _ xs level k ko HKO.out _ K1.out.row (by omega)).mono ?_
  rintro e w19 ⟨v12, rfl, m12, b19⟩
  rw [HF.out, HN.out] at m12
  have M12 := Lib.hid m12; clear m12
  have z19 := b19.size
  have M5 := Lib.hid (M5.out.below b19)
  have M8 := Lib.hid (M8.out.below b19)
  have B19 : Below w.heap.size w w19 := B17.trans (b19.mono (by omega))
  clear B17 b19 K1
  go_wp2_with fail
  refine (eqIntS_any _ _ F _ (M12.out.arg HN.out.symm) (M5.out.mut.arg HN.out.symm) HN3.out).mono ?_
  rintro e w20 ⟨rfl, b20⟩
  have z20 := b20.size
  have M8 := Lib.hid (M8.out.below b20)
  have B20 : Below w.heap.size w w20 := B19.trans (b20.mono (by omega))
  clear B19 b20
  go_wp2_with fail
  refine (heldIntS_mut _ _ n _ _ M8.out hn2).mono ?_
  rintro e w21 ⟨rfl, rfl⟩
  go_wp2_with fail
  go_ret
  exact ⟨rfl, B20⟩

set_option maxHeartbeats 1000000 in
theorem FnExactClosedBy_long (ad : Option Addr) (la ca : Nat) (level : Int) (k : ByteArray) (w : World) (h : 1048576 < la ∨ 1048576 < k.size) (h1 : la ≤ 9223372036854775807) (h2 : k.size ≤ 9223372036854775807) :
    Calls Try.prog 12 #[.slice ad la ca, .int .i64 level, .string k] w fun e w' => e = .returned (.bool true) ∧ Below w.heap.size w w' := by
  by_cases t : 1048576 < la
  · clear h
    go_enter Try.func12, Try.ntmps12
    go_wp2_with fail
    go_ret
    exact ⟨rfl, Below.refl _ _⟩
  · have t2 : 1048576 < k.size := by omega
    clear h
    go_enter Try.func12, Try.ntmps12
    go_wp2_with fail
    go_ret
    exact ⟨rfl, Below.refl _ _⟩

end Go.Proofs.Ytjkadlmlkcanpaa
