/- The law laws.FnExactEdgeOf returns true for all arguments, and changes no memory that was there. -/
import Derived.Test.YtjkadlmlkcanpaaEdge
import Derived.Test.YtjkadlmlkcanpaaArg
namespace Go.Proofs.Ytjkadlmlkcanpaa
open Go.RowKit

set_option maxHeartbeats 4000000 in
theorem FnExactEdgeOf_main (a b : Value) (xs ws : List Int) (w : World) (ha : ArgI w a xs) (hb : ArgI w b ws) (hl0 : xs.length ≤ 1048576) (hl1 : ws.length ≤ 1048576) (ca cb : Nat) (ad bd : Option Addr)
    (hav : a = .slice ad xs.length ca) (hbv : b = .slice bd ws.length cb) :
    Calls Try.prog 10 #[a, b] w fun e w' => e = .returned (.bool true) ∧ Below w.heap.size w w' := by
  have HA := Lib.hid ha
  have HB := Lib.hid hb
  obtain ⟨r0, hr0⟩ : ∃ r, (edV xs ws).1 = r := ⟨_, rfl⟩
  have HR0 := Lib.hid hr0
  have e0 : (r0 != r0) = false := by simp
  obtain ⟨r1, hr1⟩ : ∃ r, (edV xs ws).2.1 = r := ⟨_, rfl⟩
  have HR1 := Lib.hid hr1
  have e1 : (r1 != r1) = false := by simp
  obtain ⟨r2, hr2⟩ : ∃ r, (edV xs ws).2.2 = r := ⟨_, rfl⟩
  have HR2 := Lib.hid hr2
  have e2 : (r2 != r2) = false := by simp
  clear ha hb hr0 hr1 hr2
  subst hav hbv
  go_enter Try.func10, Try.ntmps10
  go_wp2_with fail
  refine (toIntS_any _ xs _ HA.out hl0).mono ?_
  rintro e w1 ⟨rfl, k1, b1⟩
  have z1 := b1.size
  have B1 : Below w.heap.size w w1 := b1
  clear b1
  have K0 := Lib.hid k1; clear k1
  go_wp2_with fail
  refine (toIntS_any _ ws _ (HB.out.below B1) hl1).mono ?_
  rintro e w2 ⟨rfl, k2, b2⟩
  have z2 := b2.size
  have K0 := Lib.hid (K0.out.below b2)
  have B2 : Below w.heap.size w w2 := B1.trans (b2.mono (by omega))
  clear B1
  clear b2
  have K1 := Lib.hid k2; clear k2
  go_wp2_with fail
  refine (sedgeOf_any _ 0 _ _ 0 _ xs ws _ K0.out.row K1.out.row (by omega) (by omega)).mono ?_
  rw [HR0.out]
  rw [HR1.out]
  rw [HR2.out]
  rintro e w3 ⟨rfl, b3⟩
  have z3 := b3.size
  have K0 := Lib.hid (K0.out.below b3)
  have K1 := Lib.hid (K1.out.below b3)
  have B3 : Below w.heap.size w w3 := B2.trans (b3.mono (by omega))
  clear B2
  clear b3
  clear K0 K1
  go_wp2_with fail
  refine (toIntS_any _ xs _ (HA.out.below B3) hl0).mono ?_
  rintro e w4 ⟨rfl, k4, b4⟩
  have z4 := b4.size
  have B4 : Below w.heap.size w w4 := B3.trans (b4.mono (by omega))
  clear B3
  clear b4
  have J0 := Lib.hid k4; clear k4
  go_wp2_with fail
  refine (toIntS_any _ ws _ (HB.out.below B4) hl1).mono ?_
  rintro e w5 ⟨rfl, k5, b5⟩
  have z5 := b5.size
  have J0 := Lib.hid (J0.out.below b5)
  have B5 : Below w.heap.size w w5 := B4.trans (b5.mono (by omega))
  clear B4
  clear b5
  have J1 := Lib.hid k5; clear k5
  go_wp2_with fail
  refine (edgeOf_any _ 0 _ _ 0 _ xs ws _ J0.out.row J1.out.row (by omega) (by omega)).mono ?_
  rw [HR0.out]
  rw [HR1.out]
  rw [HR2.out]
  rintro e w6 ⟨rfl, b6⟩
  have z6 := b6.size
  have J0 := Lib.hid (J0.out.below b6)
  have J1 := Lib.hid (J1.out.below b6)
  have B6 : Below w.heap.size w w6 := B5.trans (b6.mono (by omega))
  clear B5
  clear b6
  go_wp2_with fail
  refine (toIntS_any _ xs _ (HA.out.below B6) hl0).mono ?_
  rintro e w7 ⟨rfl, k7, b7⟩
  have z7 := b7.size
  have J0 := Lib.hid (J0.out.below b7)
  have J1 := Lib.hid (J1.out.below b7)
  have B7 : Below w.heap.size w w7 := B6.trans (b7.mono (by omega))
  clear B6
  clear b7
  have M0 := Lib.hid k7; clear k7
  go_wp2_with fail
  refine (eqIntS_any _ _ xs _ (.inr ⟨_, 0, _, rfl, J0.out.row⟩) (.inr ⟨_, 0, _, rfl, M0.out.row⟩) hl0).mono ?_
  rintro e w8 ⟨rfl, b8⟩
  have z8 := b8.size
  clear M0
  have J0 := Lib.hid (J0.out.below b8)
  have J1 := Lib.hid (J1.out.below b8)
  have B8 : Below w.heap.size w w8 := B7.trans (b8.mono (by omega))
  clear B7
  clear b8
  go_wp2_with fail
  refine (toIntS_any _ ws _ (HB.out.below B8) hl1).mono ?_
  rintro e w9 ⟨rfl, k9, b9⟩
  have z9 := b9.size
  have J0 := Lib.hid (J0.out.below b9)
  have J1 := Lib.hid (J1.out.below b9)
  have B9 : Below w.heap.size w w9 := B8.trans (b9.mono (by omega))
  clear B8
  clear b9
  have M1 := Lib.hid k9; clear k9
  go_wp2_with fail
  refine (eqIntS_any _ _ ws _ (.inr ⟨_, 0, _, rfl, J1.out.row⟩) (.inr ⟨_, 0, _, rfl, M1.out.row⟩) hl1).mono ?_
  rintro e w10 ⟨rfl, b10⟩
  have z10 := b10.size
  clear M1
  have J0 := Lib.hid (J0.out.below b10)
  have J1 := Lib.hid (J1.out.below b10)
  have B10 : Below w.heap.size w w10 := B9.trans (b10.mono (by omega))
  clear B9
  clear b10
  go_wp2_with fail
  go_ret
  exact ⟨rfl, B10⟩

set_option maxHeartbeats 1000000 in
theorem FnExactEdgeOf_long (ad bd : Option Addr) (la lb ca cb : Nat) (w : World) (h : 1048576 < la ∨ 1048576 < lb) (h1 : la ≤ 9223372036854775807) (h2 : lb ≤ 9223372036854775807) :
    Calls Try.prog 10 #[.slice ad la ca, .slice bd lb cb] w fun e w' => e = .returned (.bool true) ∧ Below w.heap.size w w' := by
  by_cases h3 : 1048576 < la
  · clear h
    go_enter Try.func10, Try.ntmps10
    go_wp2_with fail
    go_ret
    exact ⟨rfl, Below.refl _ _⟩
  · have h4 : 1048576 < lb := by omega
    clear h
    go_enter Try.func10, Try.ntmps10
    go_wp2_with fail
    go_ret
    exact ⟨rfl, Below.refl _ _⟩

end Go.Proofs.Ytjkadlmlkcanpaa
