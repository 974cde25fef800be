/- The law laws.FnExactIsTree returns true for all arguments, and changes no memory that was there. -/
import Derived.Test.YthemnkcgpcgilaaTree
namespace Go.Proofs.Ythemnkcgpcgilaa
open Go.RowKit

set_option maxHeartbeats 4000000 in
theorem FnExactIsTree_main (v : Value) (xss : List (List Int)) (w : World) (ha : ArgM w v xss) (hn : xss.length ≤ 9223372036854775807) (hr : ∀ k, k < xss.length → (gl xss k).length ≤ 9223372036854775807) :
    Calls Try.prog 13 #[v] w fun e w' => e = .returned (.bool true) ∧ Below w.heap.size w w' := by
  have HA := Lib.hid ha
  have CZ := Lib.hid (szIntSS_any v xss w ha hn hr)
  obtain ⟨t, ht⟩ : ∃ t, trV xss = t := ⟨_, rfl⟩
  have HT := Lib.hid ht
  have e0 : (t != t) = false := by simp
  clear ha ht hr hn
  go_enter Try.func13, Try.ntmps13
  go_wp2_with fail
  refine CZ.out.mono ?_
  rintro e w1 ⟨r, rfl, hz, rfl⟩
  by_cases tr : r < 0
  · have t1 : decide (r < 0) = true := by simpa using tr
    clear tr hz
    go_wp2_with fail
    go_ret
    exact ⟨rfl, Below.refl _ _⟩
  · have t1 : decide (r < 0) = false := by simpa using tr
    obtain ⟨hn, hr⟩ := hz (by omega)
    have HR := Lib.hid hr
    clear tr hz hr CZ
    go_wp2_with fail
    refine (toIntSS_any v xss w HA.out hn HR.out).mono ?_
    rintro e w2 ⟨H2, rfl, m2, b2⟩
    have M2 := Lib.hid m2
    have z2 := b2.size
    have B2 := Lib.hid b2
    clear m2 b2
    go_wp2_with fail
    refine (sisTree_any _ H2 xss w2 M2.out hn).mono ?_
    rw [HT.out]
    rintro e w3 ⟨rfl, b3⟩
    have z3 := b3.size
    have B3 := Lib.hid (B2.out.trans (b3.mono z2))
    clear b3 B2 M2
    go_wp2_with fail
    refine (toIntSS_any v xss w3 (HA.out.below B3.out) hn HR.out).mono ?_
    rintro e w4 ⟨H4, rfl, m4, b4⟩
    have z4 := b4.size
    have M4 := Lib.hid m4
    have B4 := Lib.hid (B3.out.trans (b4.mono (by omega)))
    clear m4 b4 B3
    go_wp2_with fail
    refine (isTree_any _ H4 xss w4 M4.out hn).mono ?_
    rw [HT.out]
    rintro e w5 ⟨rfl, b5⟩
    have z5 := b5.size
    have M5 := Lib.hid (M4.out.below b5)
    have B5 := Lib.hid (B4.out.trans (b5.mono (by omega)))
    clear b5 B4 M4
    go_wp2_with fail
    refine (toIntSS_any v xss w5 (HA.out.below B5.out) hn HR.out).mono ?_
    rintro e w6 ⟨H6, rfl, m6, b6⟩
    have z6 := b6.size
    have M6 := Lib.hid m6
    have N6 := Lib.hid (M5.out.below b6)
    have B6 := Lib.hid (B5.out.trans (b6.mono (by omega)))
    clear m6 b6 B5 M5
    go_wp2_with fail
    refine (eqIntSS_any _ _ H4 H6 xss w6 N6.out M6.out hn HR.out).mono ?_
    rintro e w7 ⟨rfl, b7⟩
    have B7 := Lib.hid (B6.out.trans (b7.mono (by omega)))
    clear b7 B6
    go_wp2_with fail
    go_ret
    exact ⟨rfl, B7.out⟩

end Go.Proofs.Ythemnkcgpcgilaa
