/- The law laws.FnTimesAll returns true for all codes, and changes no memory that was there. -/
import Derived.Test.YtjkadlmlkcanpaaOddsGen
import Derived.Test.YtjkadlmlkcanpaaTimesAll
import Derived.Test.YtjkadlmlkcanpaaStep
import Derived.Test.YtjkadlmlkcanpaaSUp
import Derived.Test.YtjkadlmlkcanpaaUpDown
import Derived.Test.YtjkadlmlkcanpaaEqI
namespace Go.Proofs.Ytjkadlmlkcanpaa
open Go.RowKit

theorem at_tab {f : Nat → Int} {n k : Nat} {g : Nat} {w : World} (h : RowI w g 0 (tabI f n)) (hk : k < n) : w.cell? ⟨g, k, none⟩ = some (.int .i64 (f k)) := by
  have := h.cell k (by rw [tabI_length]; exact hk)
  rwa [Nat.zero_add, gi_tabI hk] at this
/-- The row that a function returns for odds that are valid. -/
theorem row_of {P : Program} {fn : FuncId} {args : Array Value} {w : World} {L : List Int} {n : Nat} (h : Calls P fn args w fun e w' => ∃ v, e = .returned v ∧ Mut 3 w' w.heap.size v L.length (ic L) ∧ Below w.heap.size w w') (hl : L.length = n) (hn : 1 ≤ n) :
    Calls P fn args w fun e w' => ∃ g c, e = .returned (.slice (some ⟨g, 0, none⟩) n c) ∧ RowI w' g 0 L ∧ Below w.heap.size w w' :=
  h.mono fun e w' ⟨v, h1, h2, h3⟩ => by
    obtain ⟨g, c, rfl, hr⟩ := mut_row h2 rfl (by omega)
    exact ⟨g, c, by rw [h1, hl], hr, h3⟩

set_option maxHeartbeats 30000000 in
set_option maxRecDepth 100000 in
theorem FnTimesAll_main (ad : Option Addr) (n c : Nat) (w : World) (h : CodeB w w.heap.size ad n) (hn : n ≤ 1048576) (hc : n ≤ c) :
    Calls Try.prog 6 #[.slice ad n c] w fun e w' => e = .returned (.bool true) ∧ Below w.heap.size w w' := by
  have H := Lib.hid h
  clear h
  go_enter Try.func6, Try.ntmps6
  go_wp2_with fail
  refine (drawTimesAll_any ad n c w H.out (by omega) hc).mono ?_
  rintro e w2 ⟨g1, c1, xs, rfl, r1, l1, l1c, b2⟩
  have R1 := Lib.hid r1
  have z2 := b2.size
  have B2 := Lib.hid b2
  clear r1 b2 H
  cases hv : ovB xs with
  | false =>
    have e0 : taV xs = [] := by simp [taV, hv]
    go_wp2_with fail
    refine (timesAll_all g1 0 c1 xs w2 R1.out (by omega)).mono ?_
    rw [e0]
    rintro e w3 ⟨v3, rfl, m3, b3⟩
    obtain ⟨A3, c3, rfl, a3⟩ := mut_arg m3 rfl
    have z3 := b3.size
    have R3 := Lib.hid (R1.out.below b3)
    have A3' := Lib.hid a3
    have B3 := Lib.hid (B2.out.trans (b3.mono z2))
    clear b3 m3 a3 B2 R1
    go_wp2_with fail
    refine (sTimesAll_all g1 0 c1 xs w3 R3.out (by omega)).mono ?_
    rw [e0]
    rintro e w4 ⟨v4, rfl, m4, b4⟩
    obtain ⟨A4, c4, rfl, a4⟩ := mut_arg m4 rfl
    have z4 := b4.size
    have R4 := Lib.hid (R3.out.below b4)
    have A4' := Lib.hid (A3'.out.below b4)
    have B4 := Lib.hid (B3.out.trans (b4.mono (by omega)))
    clear b4 m4 B3 R3 A3'
    go_wp2_with fail
    refine (equalInts_any _ _ [] _ A4'.out a4 (by simp)).mono ?_
    rintro e w5 ⟨rfl, b5⟩
    have z5 := b5.size
    have R5 := Lib.hid (R4.out.below b5)
    have A5' := Lib.hid (A4'.out.below b5)
    have B5 := Lib.hid (B4.out.trans (b5.mono (by omega)))
    clear b5 B4 R4 A4' a4
    go_wp2_with fail
    refine (sTimesAll_all g1 0 c1 xs w5 R5.out (by omega)).mono ?_
    rw [e0]
    rintro e w7 ⟨v7, rfl, m7, b7⟩
    obtain ⟨A7, c7, rfl, a7⟩ := mut_arg m7 rfl
    have A7' := Lib.hid (A5'.out.below b7)
    have B7 := Lib.hid (B5.out.trans (b7.mono (by omega)))
    have z7 := b7.size
    clear b7 m7 B5 R5 A5'
    go_wp2_with fail
    refine (equalInts_any _ _ [] _ A7'.out a7 (by simp)).mono ?_
    rintro e w8 ⟨rfl, b8⟩
    have B8 := Lib.hid (B7.out.trans (b8.mono (by omega)))
    clear b8 B7 A7' a7
    go_wp2_with fail
    go_ret
    exact ⟨rfl, B8.out⟩
  | true =>
    have hvl := ov_of hv
    have hn0 := hvl.n0
    have HV := Lib.hid hvl
    have e1 : taV xs = tabI (taM xs) xs.length := by simp [taV, hv]
    have e2 : sdV xs = tabI (fun i => min (sdM xs i xs.length) 1000) xs.length := by simp [sdV, hv]
    have e3 : suV upVal xs = tabI (fun i => suM (upVal xs.length) xs i xs.length) xs.length := by simp [suV, hv]
    have e4 : suV shVal xs = tabI (fun i => suM (shVal xs.length) xs i xs.length) xs.length := by simp [suV, hv]
    have C1 := fun w (hr : RowI w g1 0 xs) => timesAll_all g1 0 c1 xs w hr (by omega)
    have C2 := fun w (hr : RowI w g1 0 xs) => sTimesAll_all g1 0 c1 xs w hr (by omega)
    have C3 := fun w (hr : RowI w g1 0 xs) => stepDown_all g1 0 c1 xs w hr (by omega)
    have C4 := fun w (hr : RowI w g1 0 xs) => stepUp_all g1 0 c1 xs w hr (by omega)
    have C5 := fun w (hr : RowI w g1 0 xs) => falseShare_all g1 0 c1 xs w hr (by omega)
    simp only [e1] at C1 C2
    simp only [e2] at C3
    simp only [e3] at C4
    simp only [e4] at C5
    have C1 := Lib.hid fun w hr => row_of (C1 w hr) (tabI_length _ _) hn0
    have C2 := Lib.hid fun w hr => row_of (C2 w hr) (tabI_length _ _) hn0
    have C3 := Lib.hid fun w hr => row_of (C3 w hr) (tabI_length _ _) hn0
    have C4 := Lib.hid fun w hr => row_of (C4 w hr) (tabI_length _ _) hn0
    have C5 := Lib.hid fun w hr => row_of (C5 w hr) (tabI_length _ _) hn0
    have t0 : ((xs.length : Int) == 0) = false := by rw [beq_eq_false_iff_ne]; omega
    have t0' : (xs.length == 0) = false := by rw [beq_eq_false_iff_ne]; omega
    clear e1 e2 e3 e4 hvl hv
    go_wp2_with fail
    refine (C1.out w2 R1.out).mono ?_
    rintro e w3 ⟨g3, c3, rfl, r3, b3⟩
    have z3 := b3.size
    have X3 := Lib.hid (R1.out.below b3)
    have Y3 := Lib.hid r3
    have B3 := Lib.hid (B2.out.trans (b3.mono z2))
    clear b3 r3 B2 R1
    go_wp2_with fail
    refine (C2.out w3 X3.out).mono ?_
    rintro e w4 ⟨g4, c4, rfl, r4, b4⟩
    have z4 := b4.size
    have X4 := Lib.hid (X3.out.below b4)
    have Y4 := Lib.hid (Y3.out.below b4)
    have B4 := Lib.hid (B3.out.trans (b4.mono (by omega)))
    have eqa : Calls Try.prog 25 #[.slice (some ⟨g3, 0, none⟩) xs.length c3, .slice (some ⟨g4, 0, none⟩) xs.length c4] w4 fun e w' => e = .returned (.bool true) ∧ Below w4.heap.size w4 w' := by
      have := equalInts_row g3 0 c3 g4 0 c4 _ w4 Y4.out r4 (by rw [tabI_length]; omega)
      rwa [tabI_length] at this
    clear b4 r4 B3 X3 Y3
    go_wp2_with fail
    refine eqa.mono ?_
    rintro e w5 ⟨rfl, b5⟩
    have z5 := b5.size
    have X5 := Lib.hid (X4.out.below b5)
    have Y5 := Lib.hid (Y4.out.below b5)
    have B5 := Lib.hid (B4.out.trans (b5.mono (by omega)))
    clear b5 B4 X4 Y4 eqa
    go_wp2_with fail
    refine (C3.out w5 X5.out).mono ?_
    rintro e w6 ⟨g6, c6, rfl, r6, b6⟩
    have z6 := b6.size
    have X6 := Lib.hid (X5.out.below b6)
    have Y6 := Lib.hid (Y5.out.below b6)
    have Z6 := Lib.hid r6
    have B6 := Lib.hid (B5.out.trans (b6.mono (by omega)))
    clear b6 r6 B5 X5 Y5
    go_wp2_with fail
    refine (C4.out w6 X6.out).mono ?_
    rintro e w7 ⟨g7, c7, rfl, r7, b7⟩
    have z7 := b7.size
    have X7 := Lib.hid (X6.out.below b7)
    have Y7 := Lib.hid (Y6.out.below b7)
    have Z7 := Lib.hid (Z6.out.below b7)
    have U7 := Lib.hid r7
    have B7 := Lib.hid (B6.out.trans (b7.mono (by omega)))
    clear b7 r7 B6 X6 Y6 Z6
    go_wp2_with fail
    refine (C5.out w7 X7.out).mono ?_
    rintro e w8 ⟨g8, c8, rfl, r8, b8⟩
    have z8 := b8.size
    have X8 := Lib.hid (X7.out.below b8)
    have Y8 := Lib.hid (Y7.out.below b8)
    have Z8 := Lib.hid (Z7.out.below b8)
    have U8 := Lib.hid (U7.out.below b8)
    have V8 := Lib.hid r8
    have B8 := Lib.hid (B7.out.trans (b8.mono (by omega)))
    clear b8 r8 B7 X7 Y7 Z7 U7
    go_wp2_with fail
    go_loopw [8] (fun v8 wr => ∃ k : Nat, v8 = .int .i64 k ∧ k ≤ xs.length ∧ Below w8.heap.size w8 wr) (fun v8 _ => xs.length - (intOf v8).toNat)
    case atStart => exact ⟨0, rfl, by omega, Below.refl _ _⟩
    case round =>
      obtain ⟨k, rfl, hk, hb⟩ := hrel
      have HB := Lib.hid hb
      have hz := hb.size
      by_cases hlt : k < xs.length
      · have y0 := (X8.out.below hb).cell k hlt
        rw [Nat.zero_add] at y0
        have y1 := at_tab (Y8.out.below hb) hlt
        have y2 := at_tab (Z8.out.below hb) hlt
        have y3 := at_tab (U8.out.below hb) hlt
        have y4 := at_tab (V8.out.below hb) hlt
        have i1 := ta_sd HV.out hlt
        have i2 := sd_su (xs := xs) hlt
        have i3 := su_sh HV.out (i := k)
        have i4 := sh_own HV.out hlt
        obtain ⟨x0, h0⟩ : ∃ x, gi xs k = x := ⟨_, rfl⟩
        obtain ⟨x1, h1⟩ : ∃ x, taM xs k = x := ⟨_, rfl⟩
        obtain ⟨x2, h2⟩ : ∃ x, min (sdM xs k xs.length) 1000 = x := ⟨_, rfl⟩
        obtain ⟨x3, h3⟩ : ∃ x, suM (upVal xs.length) xs k xs.length = x := ⟨_, rfl⟩
        obtain ⟨x4, h4⟩ : ∃ x, suM (shVal xs.length) xs k xs.length = x := ⟨_, rfl⟩
        rw [h0] at y0 i4
        rw [h1] at y1 i1
        rw [h2] at y2 i1 i2
        rw [h3] at y3 i2 i3
        rw [h4] at y4 i3 i4
        have t1 : decide (x1 < x2) = false := by rw [decide_eq_false_iff_not]; omega
        have t2 : decide (x2 < x3) = false := by rw [decide_eq_false_iff_not]; omega
        have t3 : decide (x3 < x4) = false := by rw [decide_eq_false_iff_not]; omega
        have t4 : decide (x4 < x0) = false := by rw [decide_eq_false_iff_not]; omega
        clear h0 h1 h2 h3 h4 i1 i2 i3 i4 hb
        go_wp2_with fail
        go_quiet (fail)
        go_wp2_with fail
        go_roundw
        case rel => exact ⟨k + 1, by go_num, by omega, by have := HB.out; (repeat' (first | (with_reducible exact Below.refl _ _) | (with_reducible assumption) | (with_reducible refine Below.drewN ?_ _) | (with_reducible refine Below.alloc ?_ ?_ _) | (with_reducible refine Below.drew ?_) | (with_reducible refine Below.setCell ?_ ?_ _) | (with_reducible refine Below.trans ?_ (Below.mono (by assumption) ?_)) | go_size | (with_reducible refine Nat.le_trans ?_ (Below.size (by assumption)))))⟩
        case measure => simp [intOf]; omega
      · have e : k = xs.length := by omega
        subst e
        have B9 := Lib.hid (B8.out.trans (hb.mono (by omega)))
        clear hb HB
        go_wp2_with fail
        go_ret
        exact ⟨by simp, B9.out⟩

set_option maxHeartbeats 1000000 in
theorem FnTimesAll_long (ad : Option Addr) (la ca : Nat) (w : World) (h : 1048576 < la) (h1 : la ≤ 9223372036854775807) :
    Calls Try.prog 6 #[.slice ad la ca] w fun e w' => e = .returned (.bool true) ∧ Below w.heap.size w w' := by
  go_enter Try.func6, Try.ntmps6
  go_wp2_with fail
  go_ret
  exact ⟨rfl, Below.refl _ _⟩

end Go.Proofs.Ytjkadlmlkcanpaa
