/- The law laws.FnExactStripByThrees returns true for all arguments, and changes no memory that was there. -/
import Derived.Test.YtoioafadenniiaaStripA
namespace Go.Proofs.Ytoioafadenniiaa
open Go.RowKit

set_option maxHeartbeats 4000000 in
theorem FnExactStripByThrees_main (a b : Value) (xs ws : List Int) (w : World) (ha : ArgI w a xs) (hb : ArgI w b ws) (hl : xs.length ≤ 1048576) (hl' : ws.length ≤ 1048576) (ca cb : Nat) (ad bd : Option Addr)
    (hav : a = .slice ad xs.length ca) (hbv : b = .slice bd ws.length cb) :
    Calls Try.prog 4 #[a, b] w fun e w' => e = .returned (.bool true) ∧ Below w.heap.size w w' := by
  have HA := Lib.hid ha
  have HB := Lib.hid hb
  obtain ⟨u, d, f, hv⟩ := stv_some xs ws
  have HV := Lib.hid hv
  clear ha hb hv
  subst hav hbv
  go_enter Try.func4, Try.ntmps4
  go_wp2_with fail
  refine (toIntS_any _ xs _ HA.out hl).mono ?_
  rintro e w1 ⟨rfl, k1, b1⟩
  have K1 := Lib.hid k1; clear k1
  have z1 := b1.size
  go_wp2_with fail
  refine (toIntS_any _ ws _ (HB.out.below b1) hl').mono ?_
  rintro e w2 ⟨rfl, k2, b2⟩
  have K2 := Lib.hid k2; clear k2
  have z2 := b2.size
  go_wp2_with fail
  refine (sstrip_all _ 0 _ _ 0 _ xs ws _ u d f HV.out (K1.out.below b2).row K2.out.row (by omega) (by omega)).mono ?_
  rintro e w3 ⟨rfl, b3⟩
  have z3 := b3.size
  have B3 : Below w.heap.size w w3 := (b1.trans (b2.mono z1)).trans (b3.mono (by omega))
  clear K1 K2 b1 b2 b3
  go_wp2_with fail
  obtain ⟨v3, hv3⟩ : ∃ v3 : World, v3 = w3.alloc (.cells #[.int .i64 u, .int .i64 d] 31) := ⟨_, rfl⟩
  have hk5 : Blk v3 w3.heap.size 31 [.int .i64 u, .int .i64 d] := by rw [hv3]; exact Blk.made w3 #[.int .i64 u, .int .i64 d] 31
  have B3 : Below w.heap.size w v3 := by rw [hv3]; exact B3.alloc (by omega) _
  rw [← hv3]
  have z3 : w3.heap.size < v3.heap.size := by rw [hv3]; simp
  have M5 := Lib.hid hk5
  clear hv3 hk5
  refine (toIntS_any _ xs _ (HA.out.below B3) hl).mono ?_
  rintro e w4 ⟨rfl, k6, b4⟩
  have K6 := Lib.hid k6; clear k6
  have z4 := b4.size
  have B4 : Below w.heap.size w w4 := B3.trans (b4.mono (by omega))
  have M5 := Lib.hid (M5.out.below b4)
  go_wp2_with fail
  refine (toIntS_any _ ws _ (HB.out.below B4) hl').mono ?_
  rintro e w5 ⟨rfl, k7, b5⟩
  have K7 := Lib.hid k7; clear k7
  have z5 := b5.size
  have K6 := Lib.hid (K6.out.below b5)
  have M5 := Lib.hid (M5.out.below b5)
  have B5 : Below w.heap.size w w5 := B4.trans (b5.mono (by omega))
  go_wp2_with fail
  refine (strip_all _ 0 _ _ 0 _ xs ws _ u d f HV.out K6.out.row K7.out.row (by omega) (by omega)).mono ?_
  rintro e w6 ⟨rfl, b6⟩
  have z6 := b6.size
  have K6 := Lib.hid (K6.out.below b6)
  have K7 := Lib.hid (K7.out.below b6)
  have M5 := M5.out.below b6
  have B6 : Below w.heap.size w w6 := B5.trans (b6.mono (by omega))
  have x1 := M5.cell (j := 0) rfl
  have x2 := M5.cell (j := 1) rfl
  have l5 := M5.lt
  have ef : (f != f) = false := by simp
  clear B3 B4 B5 b4 b5 b6 M5
  go_wp2_with (go_at_call 20; refine (eqFrac_any u d _).mono ?_; rintro e w7 ⟨rfl, b7⟩)
  have z7 := b7.size
  simp only [World.size_alloc] at z7
  have K6 := Lib.hid ((K6.out.below below_alloc).below b7)
  have K7 := Lib.hid ((K7.out.below below_alloc).below b7)
  have B7 : Below w.heap.size w w7 := (B6.alloc (by omega) _).trans (b7.mono (by simp only [World.size_alloc]; omega))
  clear B6 b7 x1 x2
  refine (toIntS_any _ xs _ (HA.out.below B7) hl).mono ?_
  rintro e w8 ⟨rfl, k9, b8⟩
  have K9 := Lib.hid k9; clear k9
  have z8 := b8.size
  have K6 := Lib.hid (K6.out.below b8)
  have K7 := Lib.hid (K7.out.below b8)
  have B8 : Below w.heap.size w w8 := B7.trans (b8.mono (by omega))
  clear B7 b8
  go_wp2_with fail
  refine (eqIntS_any _ _ xs _ (.inr ⟨_, 0, _, rfl, K6.out.row⟩) (.inr ⟨_, 0, _, rfl, K9.out.row⟩) hl).mono ?_
  rintro e w9 ⟨rfl, b9⟩
  have z9 := b9.size
  have K7 := Lib.hid (K7.out.below b9)
  have B9 : Below w.heap.size w w9 := B8.trans (b9.mono (by omega))
  clear B8 b9 K9 K6
  go_wp2_with fail
  refine (toIntS_any _ ws _ (HB.out.below B9) hl').mono ?_
  rintro e w10 ⟨rfl, k9, b10⟩
  have K9 := Lib.hid k9; clear k9
  have z10 := b10.size
  have K7 := Lib.hid (K7.out.below b10)
  have B10 : Below w.heap.size w w10 := B9.trans (b10.mono (by omega))
  clear B9 b10
  go_wp2_with fail
  refine (eqIntS_any _ _ ws _ (.inr ⟨_, 0, _, rfl, K7.out.row⟩) (.inr ⟨_, 0, _, rfl, K9.out.row⟩) hl').mono ?_
  rintro e w11 ⟨rfl, b11⟩
  have B11 : Below w.heap.size w w11 := B10.trans (b11.mono (by omega))
  clear B10 b11 K9 K7
  go_wp2_with fail
  go_ret
  exact ⟨rfl, B11⟩

set_option maxHeartbeats 1000000 in
theorem FnExactStripByThrees_long (ad bd : Option Addr) (la lb ca cb : Nat) (w : World) (h : 1048576 < la ∨ 1048576 < lb) (h1 : la ≤ 9223372036854775807) (h2 : lb ≤ 9223372036854775807) :
    Calls Try.prog 4 #[.slice ad la ca, .slice bd lb cb] w fun e w' => e = .returned (.bool true) ∧ Below w.heap.size w w' := by
  by_cases hla : 1048576 < la
  · go_enter Try.func4, Try.ntmps4
    go_wp2_with fail
    go_ret
    exact ⟨rfl, Below.refl _ _⟩
  · have hlb : 1048576 < lb := by omega
    go_enter Try.func4, Try.ntmps4
    go_wp2_with fail
    go_ret
    exact ⟨rfl, Below.refl _ _⟩

end Go.Proofs.Ytoioafadenniiaa
