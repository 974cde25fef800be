/- The law laws.FnFalseShare returns true for all codes, and changes no memory that was there. -/
import Derived.Test.YtjkadlmlkcanpaaOddsGen
import Derived.Test.YtjkadlmlkcanpaaOddsP
import Derived.Test.YtjkadlmlkcanpaaSShare
import Derived.Test.YtjkadlmlkcanpaaGreat
import Derived.Test.YtjkadlmlkcanpaaUpDown
import Derived.Test.YtjkadlmlkcanpaaEqI
namespace Go.Proofs.Ytjkadlmlkcanpaa
open Go.RowKit

theorem at_tab {f : Nat → Int} {n k : Nat} {g : Nat} {w : World} (h : RowI w g 0 (tabI f n)) (hk : k < n) : w.cell? ⟨g, k, none⟩ = some (.int .i64 (f k)) := by
  have := h.cell k (by rw [tabI_length]; exact hk)
  rwa [Nat.zero_add, gi_tabI hk] at this
/-- The row that a function returns for odds that are valid. -/
theorem row_of {P : Program} {fn : FuncId} {args : Array Value} {w : World} {L : List Int} {n : Nat} (h : Calls P fn args w fun e w' => ∃ v, e = .returned v ∧ Mut 3 w' w.heap.size v L.length (ic L) ∧ Below w.heap.size w w') (hl : L.length = n) (hn : 1 ≤ n) :
    Calls P fn args w fun e w' => ∃ g c, e = .returned (.slice (some ⟨g, 0, none⟩) n c) ∧ RowI w' g 0 L ∧ Below w.heap.size w w' :=
  h.mono fun e w' ⟨v, h1, h2, h3⟩ => by
    obtain ⟨g, c, rfl, hr⟩ := mut_row h2 rfl (by omega)
    exact ⟨g, c, by rw [h1, hl], hr, h3⟩

set_option maxHeartbeats 30000000 in
set_option maxRecDepth 100000 in
theorem FnFalseShare_main (ad : Option Addr) (n c : Nat) (w : World) (h : CodeB w w.heap.size ad n) (hn : n ≤ 1048576) (hc : n ≤ c) :
    Calls Try.prog 7 #[.slice ad n c] w fun e w' => e = .returned (.bool true) ∧ Below w.heap.size w w' := by
  have H := Lib.hid h
  clear h
  go_enter Try.func7, Try.ntmps7
  go_wp2_with fail
  refine (drawFalseShare_any ad n c w H.out (by omega) hc).mono ?_
  rintro e w2 ⟨g1, c1, xs, rfl, r1, l1, l1c, b2⟩
  have R1 := Lib.hid r1
  have z2 := b2.size
  have B2 := Lib.hid b2
  clear r1 b2 H
  cases hv : ovB xs with
  | false =>
    have e0 : suV shVal xs = [] := by simp [suV, hv]
    go_wp2_with fail
    refine (falseShare_all g1 0 c1 xs w2 R1.out (by omega)).mono ?_
    rw [e0]
    rintro e w3 ⟨v3, rfl, m3, b3⟩
    obtain ⟨A3, c3, rfl, a3⟩ := mut_arg m3 rfl
    have z3 := b3.size
    have R3 := Lib.hid (R1.out.below b3)
    have A3' := Lib.hid a3
    have B3 := Lib.hid (B2.out.trans (b3.mono z2))
    clear b3 m3 a3 B2 R1
    go_wp2_with fail
    refine (sFalseShare_all g1 0 c1 xs w3 R3.out (by omega)).mono ?_
    rw [e0]
    rintro e w4 ⟨v4, rfl, m4, b4⟩
    obtain ⟨A4, c4, rfl, a4⟩ := mut_arg m4 rfl
    have z4 := b4.size
    have R4 := Lib.hid (R3.out.below b4)
    have A4' := Lib.hid (A3'.out.below b4)
    have B4 := Lib.hid (B3.out.trans (b4.mono (by omega)))
    clear b4 m4 B3 R3 A3'
    go_wp2_with fail
    refine (equalInts_any _ _ [] _ A4'.out a4 (by simp)).mono ?_
    rintro e w5 ⟨rfl, b5⟩
    have z5 := b5.size
    have R5 := Lib.hid (R4.out.below b5)
    have A5' := Lib.hid (A4'.out.below b5)
    have B5 := Lib.hid (B4.out.trans (b5.mono (by omega)))
    clear b5 B4 R4 A4' a4
    go_wp2_with fail
    refine (sFalseShare_all g1 0 c1 xs w5 R5.out (by omega)).mono ?_
    rw [e0]
    rintro e w7 ⟨v7, rfl, m7, b7⟩
    obtain ⟨A7, c7, rfl, a7⟩ := mut_arg m7 rfl
    have A7' := Lib.hid (A5'.out.below b7)
    have B7 := Lib.hid (B5.out.trans (b7.mono (by omega)))
    have z7 := b7.size
    clear b7 m7 B5 R5 A5'
    go_wp2_with fail
    refine (equalInts_any _ _ [] _ A7'.out a7 (by simp)).mono ?_
    rintro e w8 ⟨rfl, b8⟩
    have B8 := Lib.hid (B7.out.trans (b8.mono (by omega)))
    clear b8 B7 A7' a7
    go_wp2_with fail
    go_ret
    exact ⟨rfl, B8.out⟩
  | true =>
    have hvl := ov_of hv
    have hn0 := hvl.n0
    have HV := Lib.hid hvl
    have e4 : suV shVal xs = tabI (fun i => suM (shVal xs.length) xs i xs.length) xs.length := by simp [suV, hv]
    have C1 := fun w (hr : RowI w g1 0 xs) => falseShare_all g1 0 c1 xs w hr (by omega)
    have C2 := fun w (hr : RowI w g1 0 xs) => sFalseShare_all g1 0 c1 xs w hr (by omega)
    simp only [e4] at C1 C2
    have C1 := Lib.hid fun w hr => row_of (C1 w hr) (tabI_length _ _) hn0
    have C2 := Lib.hid fun w hr => row_of (C2 w hr) (tabI_length _ _) hn0
    have t0 : ((xs.length : Int) == 0) = false := by rw [beq_eq_false_iff_ne]; omega
    have t0' : (xs.length == 0) = false := by rw [beq_eq_false_iff_ne]; omega
    obtain ⟨M, hM1, hM2⟩ : ∃ M, mxI xs (xs.length - 1) = M ∧ mxI (tabI (fun i => suM (shVal xs.length) xs i xs.length) xs.length) (xs.length - 1) = M := by
      obtain ⟨k, hk, h1, h2, h3⟩ := sh_last hvl
      obtain ⟨j, hj, ej⟩ := mxI_at xs (xs.length - 1)
      obtain ⟨i, hi, ei⟩ := mxI_at (tabI (fun i => suM (shVal xs.length) xs i xs.length) xs.length) (xs.length - 1)
      have a1 := mxI_ge xs (xs.length - 1) k (by omega)
      have a2 := mxI_ge (tabI (fun i => suM (shVal xs.length) xs i xs.length) xs.length) (xs.length - 1) k (by omega)
      rw [gi_tabI hk] at a2
      rw [gi_tabI (by omega)] at ei
      have a3 := h1 j (by omega)
      have a4 := h2 i (by omega)
      exact ⟨_, rfl, by omega⟩
    have G1 := Lib.hid (fun w (hr : RowI w g1 0 xs) => by
      have := greatest_any g1 0 c1 xs w hr (by omega) hn0
      rw [hM1] at this
      exact this)
    have G2 := Lib.hid (fun w g c (hr : RowI w g 0 (tabI (fun i => suM (shVal xs.length) xs i xs.length) xs.length)) => by
      have := greatest_any g 0 c _ w hr (by rw [tabI_length]; omega) (by rw [tabI_length]; exact hn0)
      rw [tabI_length, hM2] at this
      exact this)
    clear e4 hvl hv hM1 hM2
    go_wp2_with fail
    refine (C1.out w2 R1.out).mono ?_
    rintro e w3 ⟨g3, c3, rfl, r3, b3⟩
    have z3 := b3.size
    have X3 := Lib.hid (R1.out.below b3)
    have Y3 := Lib.hid r3
    have B3 := Lib.hid (B2.out.trans (b3.mono z2))
    clear b3 r3 B2 R1
    go_wp2_with fail
    refine (C2.out w3 X3.out).mono ?_
    rintro e w4 ⟨g4, c4, rfl, r4, b4⟩
    have z4 := b4.size
    have X4 := Lib.hid (X3.out.below b4)
    have Y4 := Lib.hid (Y3.out.below b4)
    have B4 := Lib.hid (B3.out.trans (b4.mono (by omega)))
    have eqa : Calls Try.prog 25 #[.slice (some ⟨g3, 0, none⟩) xs.length c3, .slice (some ⟨g4, 0, none⟩) xs.length c4] w4 fun e w' => e = .returned (.bool true) ∧ Below w4.heap.size w4 w' := by
      have := equalInts_row g3 0 c3 g4 0 c4 _ w4 Y4.out r4 (by rw [tabI_length]; omega)
      rwa [tabI_length] at this
    clear b4 r4 B3 X3 Y3
    go_wp2_with fail
    refine eqa.mono ?_
    rintro e w5 ⟨rfl, b5⟩
    have z5 := b5.size
    have X5 := Lib.hid (X4.out.below b5)
    have Y5 := Lib.hid (Y4.out.below b5)
    have B5 := Lib.hid (B4.out.trans (b5.mono (by omega)))
    clear b5 B4 X4 Y4 eqa
    go_wp2_with fail
    go_loopw [5] (fun v5 wr => ∃ k : Nat, v5 = .int .i64 k ∧ k ≤ xs.length ∧ Below w5.heap.size w5 wr) (fun v5 _ => xs.length - (intOf v5).toNat)
    case atStart => exact ⟨0, rfl, by omega, Below.refl _ _⟩
    case round =>
      obtain ⟨i, rfl, hi, hb⟩ := hrel
      have HB := Lib.hid hb
      have hz := hb.size
      clear hb
      by_cases hlt : i < xs.length
      · go_wp2_with fail
        go_loopw [6] (fun v6 wr => ∃ k : Nat, v6 = .int .i64 k ∧ k ≤ xs.length ∧ Below w5.heap.size w5 wr) (fun v6 _ => xs.length - (intOf v6).toNat)
        case atStart => exact ⟨0, rfl, by omega, HB.out⟩
        case round =>
          obtain ⟨k, rfl, hk, hb⟩ := hrel
          have HB := Lib.hid hb
          have hz := hb.size
          by_cases hkl : k < xs.length
          · have y0 := (X5.out.below hb).cell i hlt
            have y1 := (X5.out.below hb).cell k hkl
            rw [Nat.zero_add] at y0 y1
            have y2 := at_tab (Y5.out.below hb) hlt
            have y3 := at_tab (Y5.out.below hb) hkl
            have i1 := sh_mono (xs := xs) hlt hkl
            have i2 := sh_same HV.out hlt hkl
            have i3 := sh_same HV.out hkl hlt
            obtain ⟨x0, h0⟩ : ∃ x, gi xs i = x := ⟨_, rfl⟩
            obtain ⟨x1, h1⟩ : ∃ x, gi xs k = x := ⟨_, rfl⟩
            obtain ⟨x2, h2⟩ : ∃ x, suM (shVal xs.length) xs i xs.length = x := ⟨_, rfl⟩
            obtain ⟨x3, h3⟩ : ∃ x, suM (shVal xs.length) xs k xs.length = x := ⟨_, rfl⟩
            rw [h0] at y0
            rw [h1] at y1
            rw [h2] at y2
            rw [h3] at y3
            rw [h0, h1, h2, h3] at i1 i2
            rw [h0, h1, h2, h3] at i3
            by_cases c0 : x0 < x1
            · have t0 : decide (x0 < x1) = true := by simpa using c0
              have t1 : decide (x3 < x2) = false := by rw [decide_eq_false_iff_not]; have := i1 c0; omega
              have t2 : (x0 == x1) = false := by rw [beq_eq_false_iff_ne]; omega
              clear h0 h1 h2 h3 i1 i2 i3 hb c0
              go_wp2_with fail
              go_quiet (fail)
              go_wp2_with fail
              go_roundw
              case rel => exact ⟨k + 1, by go_num, by omega, by have := HB.out; (repeat' (first | (with_reducible exact Below.refl _ _) | (with_reducible assumption) | (with_reducible refine Below.drewN ?_ _) | (with_reducible refine Below.alloc ?_ ?_ _) | (with_reducible refine Below.drew ?_) | (with_reducible refine Below.setCell ?_ ?_ _) | (with_reducible refine Below.trans ?_ (Below.mono (by assumption) ?_)) | go_size | (with_reducible refine Nat.le_trans ?_ (Below.size (by assumption)))))⟩
              case measure => simp [intOf]; omega
            · have t0 : decide (x0 < x1) = false := by rw [decide_eq_false_iff_not]; exact c0
              by_cases c1 : x0 = x1
              · have t2 : (x0 == x1) = true := by simpa using c1
                have t3 : (x2 != x3) = false := by
                  have a1 := i2 c1
                  have a2 := i3 c1.symm
                  have a3 : x2 = x3 := by omega
                  simp [a3]
                clear h0 h1 h2 h3 i1 i2 i3 hb c0 c1
                go_wp2_with fail
                go_quiet (fail)
                go_wp2_with fail
                go_roundw
                case rel => exact ⟨k + 1, by go_num, by omega, by have := HB.out; (repeat' (first | (with_reducible exact Below.refl _ _) | (with_reducible assumption) | (with_reducible refine Below.drewN ?_ _) | (with_reducible refine Below.alloc ?_ ?_ _) | (with_reducible refine Below.drew ?_) | (with_reducible refine Below.setCell ?_ ?_ _) | (with_reducible refine Below.trans ?_ (Below.mono (by assumption) ?_)) | go_size | (with_reducible refine Nat.le_trans ?_ (Below.size (by assumption)))))⟩
                case measure => simp [intOf]; omega
              · have t2 : (x0 == x1) = false := by rw [beq_eq_false_iff_ne]; exact c1
                clear h0 h1 h2 h3 i1 i2 i3 hb c0 c1
                go_wp2_with fail
                go_quiet (fail)
                go_wp2_with fail
                go_roundw
                case rel => exact ⟨k + 1, by go_num, by omega, by have := HB.out; (repeat' (first | (with_reducible exact Below.refl _ _) | (with_reducible assumption) | (with_reducible refine Below.drewN ?_ _) | (with_reducible refine Below.alloc ?_ ?_ _) | (with_reducible refine Below.drew ?_) | (with_reducible refine Below.setCell ?_ ?_ _) | (with_reducible refine Below.trans ?_ (Below.mono (by assumption) ?_)) | go_size | (with_reducible refine Nat.le_trans ?_ (Below.size (by assumption)))))⟩
                case measure => simp [intOf]; omega
          · go_wp2_with fail
            go_roundw
            case rel => exact ⟨i + 1, by go_num, by omega, HB.out⟩
            case measure => simp [intOf]; omega
      · have e : i = xs.length := by omega
        subst e
        have X9 := Lib.hid (X5.out.below HB.out)
        have Y9 := Lib.hid (Y5.out.below HB.out)
        have B9 := Lib.hid (B5.out.trans (HB.out.mono (by omega)))
        have t9 : (M == M) = true := by simp
        clear HB
        go_wp2_with fail
        refine (G2.out _ _ _ Y9.out).mono ?_
        rintro e w10 ⟨rfl, rfl⟩
        go_wp2_with fail
        refine (G1.out _ X9.out).mono ?_
        rintro e w11 ⟨rfl, rfl⟩
        go_wp2_with fail
        go_ret
        exact ⟨rfl, B9.out⟩

set_option maxHeartbeats 1000000 in
theorem FnFalseShare_long (ad : Option Addr) (la ca : Nat) (w : World) (h : 1048576 < la) (h1 : la ≤ 9223372036854775807) :
    Calls Try.prog 7 #[.slice ad la ca] w fun e w' => e = .returned (.bool true) ∧ Below w.heap.size w w' := by
  go_enter Try.func7, Try.ntmps7
  go_wp2_with fail
  go_ret
  exact ⟨rfl, Below.refl _ _⟩

end Go.Proofs.Ytjkadlmlkcanpaa
