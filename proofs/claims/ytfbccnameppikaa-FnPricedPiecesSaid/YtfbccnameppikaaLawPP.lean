/- The law laws.FnPricedPieces returns true for all codes, and changes no memory that was there. -/
import Derived.Test.YtfbccnameppikaaSPriced
import Derived.Test.YtfbccnameppikaaLawPM
import Derived.Test.YtfbccnameppikaaSmall
namespace Go.Proofs.Ytfbccnameppikaa
open Go.RowKit

theorem priced_as (b o c n : Nat) (xs : List Int) (p U D M : Int) (w : World) (h : RowI w b o xs) (hn : xs.length = n) (hc : n ≤ c) (h17 : n ≤ 17) (hU : prU xs p = U) (hD : prD xs p = D) (hM : prM xs p = M) (r : Bool) (hr : (rvB xs && inB p 0 500) = r) :
    Calls Try.prog 17 #[.slice (some ⟨b, o, none⟩) n c, .int .i64 p] w fun e w' => e = .returned (.tuple #[.agg #[.int .i64 U, .int .i64 D], .int .i64 M, .bool r]) ∧ Below w.heap.size w w' := by
  subst hn hU hD hM hr
  exact priced_any b o c xs p w h hc (by omega)
theorem spriced_as (b o c n : Nat) (xs : List Int) (p U D M : Int) (w : World) (h : RowI w b o xs) (hn : xs.length = n) (h17 : n ≤ 17) (hU : prU xs p = U) (hD : prD xs p = D) (hM : prM xs p = M) (r : Bool) (hr : (rvB xs && inB p 0 500) = r) :
    Calls Try.prog 18 #[.slice (some ⟨b, o, none⟩) n c, .int .i64 p] w fun e w' => e = .returned (.tuple #[.agg #[.int .i64 U, .int .i64 D], .int .i64 M, .bool r]) ∧ Below w.heap.size w w' := by
  subst hn hU hD hM hr
  exact spriced_any b o c xs p w h (by omega)

set_option maxHeartbeats 8000000 in
set_option maxRecDepth 100000 in
theorem FnPricedPieces_main (ad : Option Addr) (n c : Nat) (w : World) (h : CodeB w w.heap.size ad n) (hn : n ≤ 1048576) (hc : n ≤ c) :
    Calls Try.prog 5 #[.slice ad n c] w fun e w' => e = .returned (.bool true) ∧ Below w.heap.size w w' := by
  have H := Lib.hid h
  clear h
  go_enter Try.func5, Try.ntmps5
  go_wp2_with fail
  refine (drawPricedPieces_any ad n c w H.out (by omega) hc).mono ?_
  rintro e w2 ⟨g1, c1, xs, z, rfl, k1, r1, l1, l2, hb2⟩
  obtain ⟨m, hm⟩ : ∃ m, xs.length = m := ⟨_, rfl⟩
  rw [hm] at l1 l2 ⊢
  have HM := Lib.hid hm
  have R1 := Lib.hid r1
  have z2 := hb2.size
  obtain ⟨U, hU⟩ : ∃ U, prU xs z = U := ⟨_, rfl⟩
  obtain ⟨D, hD⟩ : ∃ D, prD xs z = D := ⟨_, rfl⟩
  obtain ⟨M, hMM⟩ : ∃ M, prM xs z = M := ⟨_, rfl⟩
  obtain ⟨r, hr⟩ : ∃ r, (rvB xs && inB z 0 500) = r := ⟨_, rfl⟩
  have CI := Lib.hid (fun w (h : RowI w g1 0 xs) => priced_as g1 0 c1 m xs z U D M w h hm l2 l1 hU hD hMM r hr)
  have CS := Lib.hid (fun w (h : RowI w g1 0 xs) => spriced_as g1 0 c1 m xs z U D M w h hm l1 hU hD hMM r hr)
  have HU := Lib.hid hU
  have HD := Lib.hid hD
  have HMM := Lib.hid hMM
  have HR := Lib.hid hr
  clear r1 hU hD hr hm hMM
  go_wp2_with fail
  refine (CI.out _ R1.out).mono ?_
  rintro e w3 ⟨rfl, b3⟩
  have z3 := b3.size
  have R1 := Lib.hid (R1.out.below b3)
  have B3 : Below w.heap.size w w3 := hb2.trans (b3.mono z2)
  clear b3 hb2
  go_wp2_with fail
  obtain ⟨g5, hg5⟩ : ∃ g5, w3.heap.size = g5 := ⟨_, rfl⟩
  have k5 : Blk (w3.alloc (.cells #[.int .i64 U, .int .i64 D] 27)) g5 27 [.int .i64 U, .int .i64 D] := by rw [← hg5]; exact Blk.made w3 #[.int .i64 U, .int .i64 D] 27
  have b4 : Below w3.heap.size w3 (w3.alloc (.cells #[.int .i64 U, .int .i64 D] 27)) := below_alloc
  have R1 := Lib.hid (R1.out.below b4)
  have B4 : Below w.heap.size w (w3.alloc (.cells #[.int .i64 U, .int .i64 D] 27)) := B3.trans (b4.mono (by omega))
  rw [hg5] at z3 ⊢
  obtain ⟨w4, hw4⟩ : ∃ w4, w3.alloc (.cells #[.int .i64 U, .int .i64 D] 27) = w4 := ⟨_, rfl⟩
  rw [hw4] at k5 R1 B4 ⊢
  have z4 : w.heap.size ≤ w4.heap.size := B4.size
  clear hw4 b4 B3 hg5
  refine (CS.out _ R1.out).mono ?_
  rintro e w5 ⟨rfl, b5⟩
  have R1 := Lib.hid (R1.out.below b5)
  have K5 := Lib.hid (k5.below b5)
  have B5 : Below w.heap.size w w5 := B4.trans (b5.mono z4)
  have z5 := b5.size
  have l5 := K5.out.lt
  clear b5 k5 B4
  have x1 := K5.out.cell (j := 0) rfl
  have x2 := K5.out.cell (j := 1) rfl
  cases r with
  | false =>
    go_wp2_with fail
    go_ret
    exact ⟨rfl, B5.alloc B5.size _⟩
  | true =>
    have hr := HR.out
    have hr2 := hr
    rw [Bool.and_eq_true] at hr2
    have hv := rv_of hr2.1
    have m1 := hv.n0
    have m8 := hv.n8
    rw [HM.out] at m1 m8
    have hz8 := inB_iff.1 hr2.2
    have hpk := pk_is (yP xs z) (m - 1)
    have spq := pk_pq (F := yP xs z) (B := 12096000) (m - 1) fun j hj => yP_pq hv hz8.1 hz8.2 (by omega)
    have hU2 : U = up (pk (yP xs z) (m - 1)).1 := by rw [← HU.out, prU, if_pos hr, HM.out]
    have hD2 : D = dn (pk (yP xs z) (m - 1)).1 := by rw [← HD.out, prD, if_pos hr, HM.out]
    have hM2 : M = ((pk (yP xs z) (m - 1)).2 : Int) := by rw [← HMM.out, prM, if_pos hr, HM.out]
    obtain ⟨v, hv1⟩ : ∃ v, (pk (yP xs z) (m - 1)).1 = v := ⟨_, rfl⟩
    obtain ⟨mm, hv2⟩ : ∃ mm, (pk (yP xs z) (m - 1)).2 = mm := ⟨_, rfl⟩
    rw [hv1, hv2] at hpk
    rw [hv1] at spq hU2 hD2
    rw [hv2] at hM2
    subst hU2 hD2 hM2
    have hPK := Lib.hid hpk
    have SPQ := Lib.hid spq
    have PY := Lib.hid (fun i (hi : i < 8) => yP_pq hv hz8.1 hz8.2 hi)
    have CP := Lib.hid (fun p (h1 : 1 ≤ p) (h2 : p ≤ m) w (h : RowI w g1 0 xs) => piecesMiss_as g1 0 c1 m xs ((p : Nat) : Int) (up (amN misQ xs (p - 1) xs.length)) (dn (amN misQ xs (p - 1) xs.length)) w h HM.out l2 l1
      (by rw [ptU, hr2.1, inB_iff.2 (show (1 : Int) ≤ (p : Int) ∧ (p : Int) ≤ 8 by omega), if_pos (show (true && true) = true from rfl), am_same hv, show ((p : Int) - 1).toNat = p - 1 by omega])
      (by rw [ptD, hr2.1, inB_iff.2 (show (1 : Int) ≤ (p : Int) ∧ (p : Int) ≤ 8 by omega), if_pos (show (true && true) = true from rfl), am_same hv, show ((p : Int) - 1).toNat = p - 1 by omega]) true
      (by rw [hr2.1, inB_iff.2 (show (1 : Int) ≤ (p : Int) ∧ (p : Int) ≤ 8 by omega)]; rfl))
    have PA := Lib.hid (fun i => am_same hv i ▸ cf_pq hv i)
    clear hr hr2 hv CI CS hv1 hv2 hpk spq HU HD HMM HR
    go_upto_region 8 with fail
    obtain ⟨w6, hw6⟩ : ∃ w6, w5.alloc (.cells #[.int .i64 (up v), .int .i64 (dn v)] 27) = w6 := ⟨_, rfl⟩
    have b6 : Below w5.heap.size w5 w6 := by rw [← hw6]; exact below_alloc
    have R1 := Lib.hid (R1.out.below b6)
    have K5 := Lib.hid (K5.out.below b6)
    have B6 : Below w.heap.size w w6 := B5.trans (b6.mono B5.size)
    rw [hw6]
    have z6 := B6.size
    have HB6 := Lib.hid B6
    clear hw6 b6 B5 B6 x1 x2 l5
    go_wp2_with fail
    go_loopw [11] (fun v11 wr => ∃ p : Nat, v11 = .int .i64 p ∧ 1 ≤ p ∧ p ≤ m + 1 ∧ Below w6.heap.size w6 wr) (fun v11 _ => m + 1 - (intOf v11).toNat)
    case atStart => exact ⟨1, rfl, Nat.le_refl _, by omega, Below.refl _ _⟩
    case round =>
      obtain ⟨p, rfl, hp1, hp2, hb⟩ := hrel
      have hz := hb.size
      have B := Lib.hid (HB6.out.trans (hb.mono z6))
      by_cases hlt : p ≤ m
      · have CPp := CP.out p hp1 hlt
        have s1 := PA.out (p - 1)
        have s3 := PY.out (p - 1) (by omega)
        have low := hPK.out.low (p - 1) (by omega)
        have fst := hPK.out.first (p - 1)
        have at' := hPK.out.at'
        have e1 : yP xs z (p - 1) = amN misQ xs (p - 1) xs.length + qd (z * (p : Int)) 1 := by
          rw [yP, show ((p - 1 : Nat) : Int) + 1 = (p : Int) by omega]
        have bz := mul_price hz8.1 hz8.2 (i := p - 1) (by omega)
        rw [show ((p - 1 : Nat) : Int) + 1 = (p : Int) by omega] at bz
        obtain ⟨aq, haq⟩ : ∃ aq, amN misQ xs (p - 1) xs.length = aq := ⟨_, rfl⟩
        rw [haq] at CPp s1 e1
        obtain ⟨t, ht⟩ : ∃ t, z * (p : Int) = t := ⟨_, rfl⟩
        have q2 : IntKind.i64.wrap (z * (p : Int)) = t := by rw [ht]; exact IntWalk.i64_in _ (by omega)
        have q4 : IntKind.i64.wrap t = t := IntWalk.i64_in _ (by omega)
        rw [ht] at e1 bz
        obtain ⟨tq, htq⟩ : ∃ tq, qd t 1 = tq := ⟨_, rfl⟩
        have s2 : Pq 6048000 tq := htq ▸ (qd_pq bz.1 bz.2).mono (by omega)
        rw [htq] at e1
        obtain ⟨fq, hfq⟩ : ∃ fq, yP xs z (p - 1) = fq := ⟨_, rfl⟩
        rw [hfq] at s3 low fst e1
        have o1 := plus_ok s1 s2
        have o2 := less_ok s3 SPQ.out
        have FW := Lib.hid (fun w => lfrac_as t 1 tq htq w (by omega) (by omega) (by omega) (by omega) (by omega))
        have PW := Lib.hid (fun w => lplus_any aq tq fq e1.symm w (by omega) (by omega))
        have LW := Lib.hid (fun w => lessOf_any fq v w (by omega))
        have tl : decide (fq < v) = false := by rw [decide_eq_false_iff_not]; grind
        have R := Lib.hid (R1.out.below hb)
        have K := Lib.hid (K5.out.below hb)
        have CPp := Lib.hid CPp
        have FST := Lib.hid fst
        have AT := Lib.hid (show p = mm → fq = v from fun h => by rw [← at', ← hfq, h])
        clear s1 s2 s3 low fst at' e1 bz haq htq hfq o1 o2
        go_wp2_with (go_at_call 13; refine (CPp.out _ R.out).mono ?_; rintro e w7 ⟨rfl, b7⟩; have z7 := b7.size)
        have K := Lib.hid (K.out.below b7)
        obtain ⟨g12, hg12⟩ : ∃ g12, w7.heap.size = g12 := ⟨_, rfl⟩
        have k12 : Blk (w7.alloc (.cells #[.int .i64 (up aq), .int .i64 (dn aq)] 27)) g12 27 [.int .i64 (up aq), .int .i64 (dn aq)] := by rw [← hg12]; exact Blk.made w7 #[.int .i64 (up aq), .int .i64 (dn aq)] 27
        have b8 : Below w7.heap.size w7 (w7.alloc (.cells #[.int .i64 (up aq), .int .i64 (dn aq)] 27)) := below_alloc
        have K := Lib.hid (K.out.below b8)
        have l5 := K5.out.lt
        have h512 : g5 ≠ g12 := by omega
        have B8 := Lib.hid ((hb.trans (b7.mono hz)).trans (b8.mono (Nat.le_trans hz z7)))
        have hz12 : w6.heap.size ≤ g12 := by omega
        rw [hg12]
        obtain ⟨w8, hw8⟩ : ∃ w8, w7.alloc (.cells #[.int .i64 (up aq), .int .i64 (dn aq)] 27) = w8 := ⟨_, rfl⟩
        rw [hw8] at k12 K B8 ⊢
        have x1 := k12.cell (j := 0) rfl
        have x2 := k12.cell (j := 1) rfl
        have f1 := k12.frozen 0
        have f2 := k12.frozen 1
        have l12 := k12.lt
        have K12 := Lib.hid k12
        clear hw8 b8 b7 k12 hg12 hb
        go_upto_region 12 with fail
        obtain ⟨ι, W, hW0, hWm, hWb⟩ := good_worlds w8
        have hWn : Nonempty ι := hW0.elim fun i _ => ⟨i⟩
        have z1 : ∀ i, (W i).cell? ⟨g12, 0, none⟩ = some (.int .i64 (up aq)) := fun i => keepC (hWb i) x1
        have z2 : ∀ i, (W i).cell? ⟨g12, 1, none⟩ = some (.int .i64 (dn aq)) := fun i => keepC (hWb i) x2
        have z3 : ∀ i, (W i).frozen? ⟨g12, 0, none⟩ = false := fun i => keepF (hWb i) l12 f1
        have z4 : ∀ i, (W i).frozen? ⟨g12, 1, none⟩ = false := fun i => keepF (hWb i) l12 f2
        have zl : ∀ i, g12 < (W i).heap.size := fun i => Nat.lt_of_lt_of_le l12 (hWb i).size
        (refine region_quiet_tail (C := fun w' => ∃ i, w' = W i) 6 (by kernel_rfl) (by kernel_rfl) hW0 ?_; simp only [List.take_succ_cons, List.take_zero, List.drop_succ_cons, List.drop_zero]; (repeat (go_big_quiet_step (first
          | (go_at_call 20; exact (FW.out _).mono fun e w'' h => ⟨h.1, hWm _ _ h.2⟩)
          | (go_at_call 19; exact (PW.out _).mono fun e w'' h => ⟨h.1, hWm _ _ h.2⟩)))); refine wpQuiet_nil ?_; rintro _ ⟨iw, rfl⟩)
        go_upto_region 13 with fail
        refine wp_abstract (fun W13 => Blk W13 g12 27 [.int .i64 (up fq), .int .i64 (dn fq)] ∧ Blk W13 g5 27 [.int .i64 (up v), .int .i64 (dn v)] ∧ Below w6.heap.size w6 W13) ⟨(K12.out.below (hWb iw)).two (x := .int .i64 (up aq)) (y := .int .i64 (dn aq)) _ _, ((K.out.below (hWb iw)).others (Ne.symm h512)).others (Ne.symm h512), ((B8.out.trans ((hWb iw).mono B8.out.size)).setCell hz12 _).setCell hz12 _⟩ ?_
        rintro W13 ⟨k12, k5, b13⟩
        have z13 := b13.size
        have x1 := k12.cell (j := 0) rfl
        have x2 := k12.cell (j := 1) rfl
        have x3 := k5.cell (j := 0) rfl
        have x4 := k5.cell (j := 1) rfl
        have B13 := Lib.hid b13
        clear k12 k5 b13 z1 z2 z3 z4 zl hW0 hWm hWb K12 K B8 FW PW q2 q4 ht
        rcases Nat.lt_trichotomy p mm with hpm | hpm | hpm
        · have t1 : ((p : Int) == (mm : Int)) = false := by simp; omega
          have t2 : (p : Int) < (mm : Int) := by omega
          have hlt3 := FST.out (by omega)
          by_cases hup : up fq = up v
          · have hdn : dn fq ≠ dn v := fun h => by
              have := rat_ext hup h
              rw [this] at hlt3
              grind
            have t4 : (dn fq == dn v) = false := by simpa using hdn
            have t5 : (up fq == up v) = true := by simpa using hup
            have HUP := Lib.hid hup
            clear hup hlt3
            go_wp2_with (go_at_call 15; refine (LW.out _).mono ?_; rintro e w12 ⟨rfl, b12⟩; have x1 := keepC b12 x1; have x2 := keepC b12 x2; have x3 := keepC b12 x3; have x4 := keepC b12 x4; have z12 := b12.size)
            go_roundw
            case rel => exact ⟨p + 1, by go_num, by omega, by omega, B13.out.trans (b12.mono z13)⟩
            case measure => simp [intOf]; omega
          · have t4 : (up fq == up v) = false := by simpa using hup
            clear hup hlt3
            go_wp2_with (go_at_call 15; refine (LW.out _).mono ?_; rintro e w12 ⟨rfl, b12⟩; have x1 := keepC b12 x1; have x2 := keepC b12 x2; have x3 := keepC b12 x3; have x4 := keepC b12 x4; have z12 := b12.size)
            go_roundw
            case rel => exact ⟨p + 1, by go_num, by omega, by omega, B13.out.trans (b12.mono z13)⟩
            case measure => simp [intOf]; omega
        · subst hpm
          obtain rfl : fq = v := AT.out rfl
          have t1 : ((p : Int) == (p : Int)) = true := by simp
          go_wp2_with (go_at_call 15; refine (LW.out _).mono ?_; rintro e w12 ⟨rfl, b12⟩; have x1 := keepC b12 x1; have x2 := keepC b12 x2; have x3 := keepC b12 x3; have x4 := keepC b12 x4; have z12 := b12.size)
          go_roundw
          case rel => exact ⟨p + 1, by go_num, by omega, by omega, B13.out.trans (b12.mono z13)⟩
          case measure => simp [intOf]; omega
        · have t1 : ((p : Int) == (mm : Int)) = false := by simp; omega
          have t2 : ¬ (p : Int) < (mm : Int) := by omega
          go_wp2_with (go_at_call 15; refine (LW.out _).mono ?_; rintro e w12 ⟨rfl, b12⟩; have x1 := keepC b12 x1; have x2 := keepC b12 x2; have x3 := keepC b12 x3; have x4 := keepC b12 x4; have z12 := b12.size)
          go_roundw
          case rel => exact ⟨p + 1, by go_num, by omega, by omega, B13.out.trans (b12.mono z13)⟩
          case measure => simp [intOf]; omega
      · go_wp2_with fail
        go_ret
        exact ⟨rfl, B.out⟩

set_option maxHeartbeats 1000000 in
theorem FnPricedPieces_long (ad : Option Addr) (n c : Nat) (w : World) (h : 1048576 < n) (h1 : n ≤ 9223372036854775807) :
    Calls Try.prog 5 #[.slice ad n c] w fun e w' => e = .returned (.bool true) ∧ Below w.heap.size w w' := by
  go_enter Try.func5, Try.ntmps5
  go_wp2_with fail
  go_ret
  exact ⟨rfl, Below.refl _ _⟩

end Go.Proofs.Ytfbccnameppikaa
