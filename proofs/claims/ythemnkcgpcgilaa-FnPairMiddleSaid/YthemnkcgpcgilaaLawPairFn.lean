/- The law laws.FnPairMiddle returns true for all codes, and changes no memory that was there. -/
import Derived.Test.YthemnkcgpcgilaaPicks
import Derived.Test.YthemnkcgpcgilaaMidP
namespace Go.Proofs.Ythemnkcgpcgilaa
open Go.RowKit

set_option maxHeartbeats 30000000 in
set_option maxRecDepth 100000 in
theorem FnPairMiddle_main (ad : Option Addr) (n c : Nat) (w : World) (h : CodeB w w.heap.size ad n) (hn : n ≤ 1048576) (hc : n ≤ c) :
    Calls Try.prog 9 #[.slice ad n c] w fun e w' => e = .returned (.bool true) ∧ Below w.heap.size w w' := by
  have H := Lib.hid h
  clear h
  go_enter Try.func9, Try.ntmps9
  go_wp2_with fail
  refine (drawPairMiddle_any ad n c w H.out (by omega) hc).mono ?_
  rintro e w2 ⟨g1, c1, xs, rfl, r1, l1, l1c, b2⟩
  have R1 := Lib.hid r1
  have z2 := b2.size
  have B2 := Lib.hid b2
  clear r1 b2 H
  have C1 := pairMiddle_any g1 0 c1 xs w2 R1.out (by omega) l1c
  have C2 := Lib.hid (fun w3 hb => spairMiddle_any g1 0 c1 xs w3 (R1.out.below hb) (by omega))
  cases hv : (vdB xs && decide (xs.length ≠ 0)) with
  | false =>
    have hm : pmV xs = (0, false) := by simp only [pmV, hv]; rfl
    rw [hm] at C1 C2
    clear hm hv
    go_wp2_with fail
    refine C1.mono ?_
    rintro e w3 ⟨rfl, b3⟩
    have z3 := b3.size
    clear C1
    go_wp2_with fail
    refine (C2.out w3 b3).mono ?_
    rintro e w4 ⟨rfl, b4⟩
    have z4 := b4.size
    have B4 := Lib.hid (B2.out.trans (b3.mono z2) |>.trans (b4.mono (by omega)))
    clear C2 b3 b4 B2
    go_wp2_with fail
    go_ret
    exact ⟨rfl, B4.out⟩
  | true =>
    have hm : pmV xs = (midI (prs xs xs.length), true) := by simp only [pmV, hv]; rfl
    simp only [Bool.and_eq_true, decide_eq_true_eq] at hv
    obtain ⟨hv, hn0⟩ := hv
    have hd := vd_of hv
    have h10 := hd.n10
    have hmn := pmV_ng hv (by omega)
    have hma := pm_max (xs := xs) (by omega)
    have hmi := pm_min (xs := xs) (by omega)
    have hmb := midI_in (prs_bound hd.x xs.length (Nat.le_refl _)) (prs_pos (by omega))
    have hxb := mxI_in xs hd.x (xs.length - 1) (by omega)
    have hyb := mxI_in (ngI xs) (vd_ng hd).x (xs.length - 1) (by rw [ngI_length]; omega)
    obtain ⟨m, hme⟩ : ∃ m, midI (prs xs xs.length) = m := ⟨_, rfl⟩
    rw [hme] at hm hmn hma hmi hmb
    rw [hm] at C1 C2
    have HX := Lib.hid hd.x
    have HMN := Lib.hid hmn
    have G1 := fun w (hr : RowI w g1 0 xs) => greatest_any g1 0 c1 xs w hr (by omega) (by omega)
    have G2 := fun w g c (hr : RowI w g 0 (ngI xs)) => greatest_any g 0 c (ngI xs) w hr (by rw [ngI_length]; omega) (by rw [ngI_length]; omega)
    simp only [ngI_length] at G2
    obtain ⟨x, hx⟩ : ∃ x, mxI xs (xs.length - 1) = x := ⟨_, rfl⟩
    obtain ⟨y, hy⟩ : ∃ x, mxI (ngI xs) (xs.length - 1) = x := ⟨_, rfl⟩
    rw [hx] at hma hxb
    rw [hy] at hmi hyb
    simp only [hx] at G1
    simp only [hy] at G2
    have G1 := Lib.hid G1
    have G2 := Lib.hid G2
    have e0 : (m != m) = false := by simp
    have e1 : (-m == -m) = true := by simp
    have q1 : IntKind.i64.wrap (-m) = -m := IntWalk.i64_in _ (by omega)
    have q2 : IntKind.i64.wrap (4 * x) = 4 * x := IntWalk.i64_in _ (by omega)
    have q3 : IntKind.i64.wrap (4 * y) = 4 * y := IntWalk.i64_in _ (by omega)
    have t1 : decide (m ≤ 4 * x) = true := by simpa using hma
    have t2 : decide (-m ≤ 4 * y) = true := by simpa using hmi
    clear hm hv hd hme hmn hx hy
    go_wp2_with fail
    refine C1.mono ?_
    rintro e w3 ⟨rfl, b3⟩
    have z3 := b3.size
    clear C1
    go_wp2_with fail
    refine (C2.out w3 b3).mono ?_
    rintro e w4 ⟨rfl, b4⟩
    have z4 := b4.size
    have B4 := Lib.hid (B2.out.trans (b3.mono z2) |>.trans (b4.mono (by omega)))
    have R4 := Lib.hid ((R1.out.below b3).below b4)
    clear C2 b3 b4 B2 R1
    go_wp2_with fail
    refine (negated_any g1 0 c1 xs w4 R4.out (by omega) (fun k hk => by have := HX.out k hk; omega)).mono ?_
    rintro e w5 ⟨g5, c5, rfl, ho, hb5⟩
    have C4 := pairMiddle_any g5 0 c5 (ngI xs) w5 ho.row (by rw [ngI_length]; omega) (by rw [ngI_length]; exact ho.cap)
    rw [ngI_length, HMN.out] at C4
    have z5 := hb5.size
    have B5 := Lib.hid (B4.out.trans (hb5.mono (by omega)))
    have R5 := Lib.hid (R4.out.below hb5)
    clear ho hb5 B4 R4
    go_wp2_with fail
    refine C4.mono ?_
    rintro e w6 ⟨rfl, b6⟩
    have z6 := b6.size
    have B6 := Lib.hid (B5.out.trans (b6.mono (by omega)))
    have R6 := Lib.hid (R5.out.below b6)
    clear C4 b6 B5 R5
    go_wp2_with fail
    refine (G1.out w6 R6.out).mono ?_
    rintro e w7 ⟨rfl, rfl⟩
    go_wp2_with fail
    refine (negated_any g1 0 c1 xs w6 R6.out (by omega) (fun k hk => by have := HX.out k hk; omega)).mono ?_
    rintro e w8 ⟨g8, c8, rfl, ho, hb8⟩
    have R8 := Lib.hid ho.row
    have B8 := Lib.hid (B6.out.trans (hb8.mono (by omega)))
    clear ho hb8 B6
    go_wp2_with fail
    refine (G2.out w8 g8 c8 R8.out).mono ?_
    rintro e w9 ⟨rfl, rfl⟩
    go_wp2_with fail
    go_ret
    exact ⟨rfl, B8.out⟩

set_option maxHeartbeats 1000000 in
theorem FnPairMiddle_long (ad : Option Addr) (la ca : Nat) (w : World) (h : 1048576 < la) (h1 : la ≤ 9223372036854775807) :
    Calls Try.prog 9 #[.slice ad la ca] w fun e w' => e = .returned (.bool true) ∧ Below w.heap.size w w' := by
  go_enter Try.func9, Try.ntmps9
  go_wp2_with fail
  go_ret
  exact ⟨rfl, Below.refl _ _⟩

end Go.Proofs.Ythemnkcgpcgilaa
