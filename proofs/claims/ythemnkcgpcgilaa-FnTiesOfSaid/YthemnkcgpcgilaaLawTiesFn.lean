/- The law laws.FnTiesOf returns true for all codes, and changes no memory that was there. -/
import Derived.Test.YthemnkcgpcgilaaPicks
import Derived.Test.YthemnkcgpcgilaaRanks
import Derived.Test.YthemnkcgpcgilaaTiesI
import Derived.Test.YthemnkcgpcgilaaSmall
namespace Go.Proofs.Ythemnkcgpcgilaa
open Go.RowKit

theorem FnTiesOf_vd (b o c : Nat) (xs : List Int) (w : World) (h : RowI w b o xs) (hm : xs.length ≤ 1099511627776) (t : Bool) (ht : vdB xs = t) :
    Calls Try.prog 34 #[.slice (some ⟨b, o, none⟩) xs.length c] w fun e w' => e = .returned (.bool t) ∧ Below w.heap.size w w' := by
  rw [← ht]
  exact validData_any b o c xs w h hm

set_option maxHeartbeats 30000000 in
set_option maxRecDepth 100000 in
theorem FnTiesOf_main (ad : Option Addr) (n c : Nat) (w : World) (h : CodeB w w.heap.size ad n) (hn : n ≤ 1048576) (hc : n ≤ c) :
    Calls Try.prog 10 #[.slice ad n c] w fun e w' => e = .returned (.bool true) ∧ Below w.heap.size w w' := by
  have H := Lib.hid h
  clear h
  go_enter Try.func10, Try.ntmps10
  go_wp2_with fail
  refine (drawTiesOf_any ad n c w H.out (by omega) hc).mono ?_
  rintro e w2 ⟨g1, c1, xs, rfl, r1, l1, l1c, b2⟩
  have R1 := Lib.hid r1
  have z2 := b2.size
  have B2 := Lib.hid b2
  clear r1 b2 H
  have tl := tiesV_len xs
  go_wp2_with fail
  refine (tiesOf_any g1 0 c1 xs w2 R1.out (by omega)).mono ?_
  rintro e w3 ⟨v3, rfl, m3, b3⟩
  obtain ⟨A3, c3, rfl, a3⟩ := mut_arg m3 rfl
  have z3 := b3.size
  have R3 := Lib.hid (R1.out.below b3)
  have A3 := Lib.hid a3
  have B3 := Lib.hid (B2.out.trans (b3.mono z2))
  clear b3 m3 a3 B2 R1
  go_wp2_with fail
  refine (stiesOf_any g1 0 c1 xs w3 R3.out (by omega)).mono ?_
  rintro e w4 ⟨v4, rfl, m4, b4⟩
  obtain ⟨A4, c4, rfl, a4⟩ := mut_arg m4 rfl
  have z4 := b4.size
  have R4 := Lib.hid (R3.out.below b4)
  have A4 := Lib.hid (A3.out.below b4)
  have B4 := Lib.hid (B3.out.trans (b4.mono (by omega)))
  clear b4 m4 B3 R3 A3
  go_wp2_with fail
  refine (equalInts_any _ _ (tiesV xs) _ A4.out a4 (by omega)).mono ?_
  rintro e w5 ⟨rfl, b5⟩
  have z5 := b5.size
  have R5 := Lib.hid (R4.out.below b5)
  have A5 := Lib.hid (A4.out.below b5)
  have B5 := Lib.hid (B4.out.trans (b5.mono (by omega)))
  clear b5 B4 R4 A4 a4
  cases hv : vdB xs with
  | false =>
    go_wp2_with fail
    refine (FnTiesOf_vd g1 0 c1 xs w5 R5.out (by omega) false hv).mono ?_
    rintro e w6 ⟨rfl, b6⟩
    have z6 := b6.size
    have R6 := Lib.hid (R5.out.below b6)
    have A6 := Lib.hid (A5.out.below b6)
    have B6 := Lib.hid (B5.out.trans (b6.mono (by omega)))
    clear b6 B5 R5 A5 hv
    go_wp2_with fail
    refine (stiesOf_any g1 0 c1 xs w6 R6.out (by omega)).mono ?_
    rintro e w7 ⟨v7, rfl, m7, b7⟩
    obtain ⟨A7', c7, rfl, a7⟩ := mut_arg m7 rfl
    have z7 := b7.size
    have A7 := Lib.hid (A6.out.below b7)
    have B7 := Lib.hid (B6.out.trans (b7.mono (by omega)))
    clear b7 m7 B6 R6 A6
    go_wp2_with fail
    refine (equalInts_any _ _ (tiesV xs) _ A7.out a7 (by omega)).mono ?_
    rintro e w8 ⟨rfl, b8⟩
    have B8 := Lib.hid (B7.out.trans (b8.mono (by omega)))
    clear b8 B7 A7 a7
    go_wp2_with fail
    go_ret
    exact ⟨rfl, B8.out⟩
  | true =>
    have hd := vd_of hv
    have h10 := hd.n10
    have e0 : tiesV xs = tieS xs 401 := by simp [tiesV, hv]
    have hsm := sm_ties hd
    have hto := ties_total_le xs
    have hti := tieS_in xs 401
    rw [← e0] at hsm hto hti
    obtain ⟨L, hL⟩ : ∃ L, tiesV xs = L := ⟨_, rfl⟩
    rw [hL] at hsm hto hti tl A5 ⊢
    obtain ⟨tt, htt⟩ : ∃ t, totS L L.length = t := ⟨_, rfl⟩
    rw [htt] at hto
    have TT := Lib.hid (fun w v (h : ArgI w v L) => by
      have := total_any v L xs.length w h (by omega) hti (by omega)
      rw [htt] at this
      exact this)
    have SM := Lib.hid hsm
    have HRK := Lib.hid (ranksOf_any g1 0 c1 xs · · (by omega) hv)
    go_wp2_with fail
    refine (FnTiesOf_vd g1 0 c1 xs w5 R5.out (by omega) true hv).mono ?_
    rintro e w6 ⟨rfl, b6⟩
    have z6 := b6.size
    have R6 := Lib.hid (R5.out.below b6)
    have A6 := Lib.hid (A5.out.below b6)
    have B6 := Lib.hid (B5.out.trans (b6.mono (by omega)))
    clear b6 B5 R5 A5 hv hd e0 hsm hti hL htt
    go_wp2_with fail
    refine (HRK.out w6 R6.out).mono ?_
    rintro e w7 ⟨g7, c7, rfl, r7, b7⟩
    have z7 := b7.size
    have K7 := Lib.hid r7
    have A7 := Lib.hid (A6.out.below b7)
    have B7 := Lib.hid (B6.out.trans (b7.mono (by omega)))
    clear b7 r7 B6 R6 A6 HRK
    go_wp2_with fail
    go_loopw [6, 7] (fun v6 v7 wr => ∃ i : Nat, v7 = .int .i64 i ∧ i ≤ xs.length ∧ v6 = .bool (smB xs i) ∧ Below w7.heap.size w7 wr) (fun _ v7 _ => xs.length - (intOf v7).toNat)
    case atStart => exact ⟨0, rfl, by omega, rfl, Below.refl _ _⟩
    case round =>
      obtain ⟨i, rfl, hi, rfl, hb⟩ := hrel
      have HB := Lib.hid hb
      have hz := hb.size
      clear hb
      by_cases hlt : i < xs.length
      · go_wp2_with fail
        go_loopw [6, 8] (fun v6 v8 wr => ∃ k : Nat, v8 = .int .i64 k ∧ k ≤ i ∧ v6 = .bool (smB xs i || eqB xs i k) ∧ Below w7.heap.size w7 wr) (fun _ v8 _ => i - (intOf v8).toNat)
        case atStart => exact ⟨0, rfl, by omega, by simp [eqB], HB.out⟩
        case round =>
          obtain ⟨k, rfl, hk, rfl, hb⟩ := hrel
          have HB := Lib.hid hb
          have hz := hb.size
          clear hb
          by_cases hkl : k < i
          · have c1 := (K7.out.below HB.out).cell i (by rw [rnkV_length]; exact hlt)
            have c2 := (K7.out.below HB.out).cell k (by rw [rnkV_length]; omega)
            have hs := rnk_same (xs := xs) hlt (show k < xs.length by omega)
            have s1 : eqB xs i (k + 1) = (eqB xs i k || (gi xs i == gi xs k)) := rfl
            rw [← hs] at s1
            rw [Nat.zero_add] at c1 c2
            obtain ⟨x, hx⟩ : ∃ x, gi (rnkV xs) i = x := ⟨_, rfl⟩
            obtain ⟨y, hy⟩ : ∃ x, gi (rnkV xs) k = x := ⟨_, rfl⟩
            rw [hx] at c1 s1
            rw [hy] at c2 s1
            have S1 := Lib.hid (show (smB xs i || eqB xs i (k + 1)) = ((smB xs i || eqB xs i k) || (x == y)) from by rw [s1, Bool.or_assoc])
            have q3 : (k : Int) < (xs.length : Int) := by omega
            clear hs s1 hx hy
            cases hsm : (smB xs i || eqB xs i k) with
            | true =>
              rw [hsm] at S1
              clear hsm
              go_wp2_with fail
              go_quiet (fail)
              go_wp2_with fail
              go_roundw
              case rel => exact ⟨k + 1, by go_num, by omega, by rw [S1.out]; rfl, by have := HB.out; (repeat' (first | (with_reducible exact Below.refl _ _) | (with_reducible assumption) | (with_reducible refine Below.drewN ?_ _) | (with_reducible refine Below.alloc ?_ ?_ _) | (with_reducible refine Below.drew ?_) | (with_reducible refine Below.setCell ?_ ?_ _) | (with_reducible refine Below.trans ?_ (Below.mono (by assumption) ?_)) | go_size | (with_reducible refine Nat.le_trans ?_ (Below.size (by assumption)))))⟩
              case measure => simp [intOf]; omega
            | false =>
              rw [hsm] at S1
              clear hsm
              go_wp2_with fail
              go_quiet (fail)
              go_wp2_with fail
              go_roundw
              case rel => exact ⟨k + 1, by go_num, by omega, by rw [S1.out]; rfl, by have := HB.out; (repeat' (first | (with_reducible exact Below.refl _ _) | (with_reducible assumption) | (with_reducible refine Below.drewN ?_ _) | (with_reducible refine Below.alloc ?_ ?_ _) | (with_reducible refine Below.drew ?_) | (with_reducible refine Below.setCell ?_ ?_ _) | (with_reducible refine Below.trans ?_ (Below.mono (by assumption) ?_)) | go_size | (with_reducible refine Nat.le_trans ?_ (Below.size (by assumption)))))⟩
              case measure => simp [intOf]; omega
          · have e : k = i := by omega
            subst e
            go_wp2_with fail
            go_roundw
            case rel => exact ⟨k + 1, by go_num, by omega, rfl, HB.out⟩
            case measure => simp [intOf]; omega
      · have e : i = xs.length := by omega
        subst e
        have A8 := Lib.hid (A7.out.below HB.out)
        have B8 := Lib.hid (B7.out.trans (HB.out.mono (by omega)))
        rw [SM.out]
        have t1 : decide (tt ≤ (xs.length : Int)) = true := by simpa using hto
        by_cases t : 0 < L.length
        · have t2 : decide (0 < L.length) = true := by simpa using t
          have t3 : decide ((0 : Int) < (L.length : Int)) = true := by simpa using t
          rw [t2]
          clear A7 B7 HB
          go_wp2_with fail
          refine (TT.out _ _ A8.out).mono ?_
          rintro e w9 ⟨rfl, rfl⟩
          go_wp2_with fail
          go_ret
          exact ⟨rfl, B8.out⟩
        · have t2 : decide (0 < L.length) = false := by simpa using t
          have t3 : decide ((0 : Int) < (L.length : Int)) = false := by rw [decide_eq_false_iff_not]; omega
          rw [t2]
          clear A7 B7 HB
          go_wp2_with fail
          refine (TT.out _ _ A8.out).mono ?_
          rintro e w9 ⟨rfl, rfl⟩
          go_wp2_with fail
          go_ret
          exact ⟨rfl, B8.out⟩

set_option maxHeartbeats 1000000 in
theorem FnTiesOf_long (ad : Option Addr) (la ca : Nat) (w : World) (h : 1048576 < la) (h1 : la ≤ 9223372036854775807) :
    Calls Try.prog 10 #[.slice ad la ca] w fun e w' => e = .returned (.bool true) ∧ Below w.heap.size w w' := by
  go_enter Try.func10, Try.ntmps10
  go_wp2_with fail
  go_ret
  exact ⟨rfl, Below.refl _ _⟩

end Go.Proofs.Ythemnkcgpcgilaa
