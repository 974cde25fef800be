/- The law laws.FnExactMiddlePieces returns true for all arguments, and changes no memory that was there. -/
import Derived.Test.YtfbccnameppikaaSMidP
import Derived.Test.YtfbccnameppikaaArg
namespace Go.Proofs.Ytfbccnameppikaa
open Go.RowKit

set_option maxHeartbeats 4000000 in
theorem FnExactMiddlePieces_main (a : Value) (xs : List Int) (x : Int) (w : World) (ha : ArgI w a xs) (hl0 : xs.length ≤ 1048576) (ca : Nat) (ad : Option Addr)
    (hav : a = .slice ad xs.length ca) :
    Calls Try.prog 6 #[a, .int .i64 x] w fun e w' => e = .returned (.bool true) ∧ Below w.heap.size w w' := by
  have HA := Lib.hid ha
  obtain ⟨r0, hr0⟩ : ∃ r, (mpV xs x) = r := ⟨_, rfl⟩
  have HR0 := Lib.hid hr0
  have e0 : (r0 != r0) = false := by simp
  clear ha hr0
  subst hav
  go_enter Try.func6, Try.ntmps6
  go_wp2_with fail
  refine (toIntS_any _ xs _ HA.out hl0).mono ?_
  rintro e w1 ⟨rfl, k1, b1⟩
  have z1 := b1.size
  have B1 : Below w.heap.size w w1 := b1
  clear b1
  have K0 := Lib.hid k1; clear k1
  go_wp2_with fail
  refine (smiddlePieces_any _ 0 _ xs x _ K0.out.row (by omega) (by omega)).mono ?_
  rw [HR0.out]
  rintro e w2 ⟨rfl, b2⟩
  have z2 := b2.size
  have K0 := Lib.hid (K0.out.below b2)
  have B2 : Below w.heap.size w w2 := B1.trans (b2.mono (by omega))
  clear B1
  clear b2
  clear K0
  go_wp2_with fail
  refine (toIntS_any _ xs _ (HA.out.below B2) hl0).mono ?_
  rintro e w3 ⟨rfl, k3, b3⟩
  have z3 := b3.size
  have B3 : Below w.heap.size w w3 := B2.trans (b3.mono (by omega))
  clear B2
  clear b3
  have J0 := Lib.hid k3; clear k3
  go_wp2_with fail
  refine (middlePieces_any _ 0 _ xs x _ J0.out.row (by omega) (by omega)).mono ?_
  rw [HR0.out]
  rintro e w4 ⟨rfl, b4⟩
  have z4 := b4.size
  have J0 := Lib.hid (J0.out.below b4)
  have B4 : Below w.heap.size w w4 := B3.trans (b4.mono (by omega))
  clear B3
  clear b4
  go_wp2_with fail
  refine (toIntS_any _ xs _ (HA.out.below B4) hl0).mono ?_
  rintro e w5 ⟨rfl, k5, b5⟩
  have z5 := b5.size
  have J0 := Lib.hid (J0.out.below b5)
  have B5 : Below w.heap.size w w5 := B4.trans (b5.mono (by omega))
  clear B4
  clear b5
  have M0 := Lib.hid k5; clear k5
  go_wp2_with fail
  refine (eqIntS_any _ _ xs _ (.inr ⟨_, 0, _, rfl, J0.out.row⟩) (.inr ⟨_, 0, _, rfl, M0.out.row⟩) hl0).mono ?_
  rintro e w6 ⟨rfl, b6⟩
  have z6 := b6.size
  clear M0
  have J0 := Lib.hid (J0.out.below b6)
  have B6 : Below w.heap.size w w6 := B5.trans (b6.mono (by omega))
  clear B5
  clear b6
  go_wp2_with fail
  go_ret
  exact ⟨rfl, B6⟩

set_option maxHeartbeats 1000000 in
theorem FnExactMiddlePieces_long (ad : Option Addr) (la ca : Nat) (x : Int) (w : World) (h : 1048576 < la) (h1 : la ≤ 9223372036854775807) :
    Calls Try.prog 6 #[.slice ad la ca, .int .i64 x] w fun e w' => e = .returned (.bool true) ∧ Below w.heap.size w w' := by
  go_enter Try.func6, Try.ntmps6
  go_wp2_with fail
  go_ret
  exact ⟨rfl, Below.refl _ _⟩

end Go.Proofs.Ytfbccnameppikaa
