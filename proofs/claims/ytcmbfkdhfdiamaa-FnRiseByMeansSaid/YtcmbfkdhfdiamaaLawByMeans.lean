/- The law laws.FnRiseByMeans returns true for all codes, and changes no memory that was there. -/
import Derived.Test.YtcmbfkdhfdiamaaClimb
import Derived.Test.YtcmbfkdhfdiamaaSumB
import Derived.Test.YtcmbfkdhfdiamaaDraws
import Derived.Test.YtcmbfkdhfdiamaaRiseMiss
import Derived.Test.YtcmbfkdhfdiamaaLFrac
import Derived.Test.YtcmbfkdhfdiamaaTail
namespace Go.Proofs.Ytcmbfkdhfdiamaa
open Go.RowKit

theorem RowI.others {w : World} {b o : Nat} {xs : List Int} {a : Addr} {v : Value} (h : RowI w b o xs) (ha : b ≠ a.block) : RowI (w.setCell a v) b o xs :=
  ⟨by rw [World.size_setCell]; exact h.blk, fun k hk => (World.cell?_of_block (a := ⟨b, o + k, none⟩) (Below.heap_setCell w a v b ha)).trans (h.cell k hk)⟩

set_option maxHeartbeats 8000000 in
set_option maxRecDepth 100000 in
theorem FnRiseByMeans_main (ad : Option Addr) (n c : Nat) (w : World) (h : CodeB w w.heap.size ad n) (hn : n ≤ 1048576) (hc : n ≤ c) :
    Calls Try.prog 8 #[.slice ad n c] w fun e w' => e = .returned (.bool true) ∧ Below w.heap.size w w' := by
  have H := Lib.hid h
  clear h
  go_enter Try.func8, Try.ntmps8
  go_wp2_with fail
  refine (drawRiseByMeans_any ad n c w H.out (by omega) hc).mono ?_
  rintro e w2 ⟨g1, c1, g2, c2, xs, ws, rfl, k1, k2, r1, r2, l1, l2, hb2⟩
  have R1 := Lib.hid r1
  have R2 := Lib.hid r2
  have z2 := hb2.size
  clear r1 r2
  obtain ⟨F, hF⟩ : ∃ F, rbmV xs ws = F := ⟨_, rfl⟩
  obtain ⟨m, hm⟩ : ∃ m, F.length = m := ⟨_, rfl⟩
  have hm2 : m ≤ 1048576 := by rw [← hm, ← hF]; exact rbmV_le xs ws (by omega)
  have HF := Lib.hid hF
  have HM := Lib.hid hm
  clear hF hm
  go_wp2_with fail
  refine (riseByMeans_all g1 0 c1 g2 0 c2 xs ws _ R1.out R2.out (by omega) (by omega)).mono ?_
  rintro e w3 ⟨v3, rfl, m3, b3⟩
  rw [HF.out, HM.out] at m3
  have M3 := Lib.hid m3
  have z3 := b3.size
  have R1 := Lib.hid (R1.out.below b3)
  have R2 := Lib.hid (R2.out.below b3)
  have B3 : Below w.heap.size w w3 := hb2.trans (b3.mono z2)
  clear b3 hb2 m3
  go_wp2_with fail
  refine (sriseByMeans_all g1 0 c1 g2 0 c2 xs ws _ R1.out R2.out (by omega) (by omega)).mono ?_
  rintro e w4 ⟨v4, rfl, m4, b4⟩
  rw [HF.out, HM.out] at m4
  have z4 := b4.size
  have R1 := Lib.hid (R1.out.below b4)
  have R2 := Lib.hid (R2.out.below b4)
  have M3 := Lib.hid (M3.out.below b4)
  have B4 : Below w.heap.size w w4 := B3.trans (b4.mono (by omega))
  clear b4 B3
  go_wp2_with fail
  refine (equalFracs_any _ _ _ _ m F _ M3.out m4 HM.out hm2).mono ?_
  rintro e w5 ⟨rfl, b5⟩
  have z5 := b5.size
  have R1 := Lib.hid (R1.out.below b5)
  have R2 := Lib.hid (R2.out.below b5)
  have M3 := Lib.hid (M3.out.below b5)
  have B5 : Below w.heap.size w w5 := B4.trans (b5.mono (by omega))
  clear b5 B4 m4
  cases hv : vlB xs ws with
  | false =>
    have hF0 : F = [] := by rw [← HF.out]; simp [rbmV, hv]
    have hm0 : m = 0 := by rw [← HM.out, hF0]; rfl
    subst hm0
    obtain ⟨ao, ac, rfl⟩ : ∃ ao ac, v3 = .slice ao 0 ac := by
      rcases M3.out with ⟨h, _, _⟩ | ⟨g, cap, h, _, _⟩
      · exact ⟨none, 0, h⟩
      · exact ⟨_, _, h⟩
    go_wp2_with fail
    refine (sriseByMeans_all g1 0 c1 g2 0 c2 xs ws _ R1.out R2.out (by omega) (by omega)).mono ?_
    rintro e w6 ⟨v6, rfl, m6, b6⟩
    rw [HF.out, HM.out] at m6
    have M3 := Lib.hid (M3.out.below b6)
    have B6 : Below w.heap.size w w6 := B5.trans (b6.mono (by omega))
    clear b6 B5
    go_wp2_with fail
    refine (equalFracs_any _ _ _ _ 0 F _ M3.out m6 HM.out (by omega)).mono ?_
    rintro e w7 ⟨rfl, b7⟩
    have B7 : Below w.heap.size w w7 := B6.trans (b7.mono B6.size)
    clear b7 B6 m6
    go_wp2_with fail
    go_ret
    exact ⟨rfl, B7⟩
  | true =>
    have hvl := vl_of hv
    have hn8 := hvl.n8
    have hn0 := hvl.n0
    have HNW := Lib.hid hvl.nw
    have HV := Lib.hid hvl
    have hd := poolR_dec1 (xs := xs) (ws := ws)
    have h0 := poolR_first (xs := xs) (ws := ws) hn0
    obtain ⟨R, hR⟩ : ∃ R, poolR xs ws xs.length = R := ⟨_, rfl⟩
    rw [hR] at hd h0
    obtain ⟨G, hG⟩ : ∃ G, bmq xs ws R = G := ⟨_, rfl⟩
    have hFG : F = tab G xs.length := by rw [← HF.out, ← hG, ← hR]; simp only [rbmV, hv, if_true]; rw [rbm_eq hvl]; rfl
    have hmx : m = xs.length := by rw [← HM.out, hFG, tab_length]
    have hsm : ∀ j, j < xs.length → Sm 1200 40 (G j) := fun j hj => by rw [← hG]; exact bmq_sm hvl hd h0 hj
    have hso : ∀ j, j ≤ xs.length → Sm 336000 40 (sumQ ws G j) := fun j hj => by rw [← hG]; exact sum_sm hvl hd h0 hj
    have hal : sumQ ws G xs.length = (wsum xs ws 0 xs.length : Rat) := by rw [← hG]; exact sum_all hvl hd h0
    have hcl : Clm xs xs.length → ∀ j, j < xs.length → G j = (gi xs j : Rat) := fun h j hj => by rw [← hG, ← hR, ← best_eq hvl hj]; exact best_clm hvl h hj
    subst hmx
    obtain ⟨g3, cap3, rfl, hg3, hk3⟩ := M3.out.shape (by omega)
    rw [hFG] at hk3
    have HK3 := Lib.hid hk3
    have SM := Lib.hid hsm
    have SO := Lib.hid hso
    have AL := Lib.hid hal
    have CL := Lib.hid hcl
    have hq0 : qd 0 1 = sumQ ws G 0 := by rw [qd_one]; rfl
    obtain ⟨q0, hq⟩ : ∃ q, sumQ ws G 0 = q := ⟨_, rfl⟩
    rw [hq] at hq0
    have W0 := Lib.hid (fun w => lfrac_as 0 1 q0 hq0 w (by omega) (by omega) (by omega) (by omega) (by omega))
    have HQ0 := Lib.hid hq
    have t1 : ((xs.length : Int) == 0) = false := by rw [beq_eq_false_iff_ne]; omega
    clear hvl hd h0 hR hG hFG hsm hso hal hcl hk3 hq0 hq M3 HF HM
    go_wp2_with (go_at_call 33; refine (W0.out _).mono ?_; rintro e w6 ⟨rfl, b6⟩; have z6 := b6.size)
    have h16 := R1.out.blk
    have h26 := R2.out.blk
    have K3 := Lib.hid ((HK3.out.below b6).below (below_alloc (o := .cells #[.int .i64 (up q0), .int .i64 (dn q0)] 29)))
    have k6 : Blk (w6.alloc (.cells #[.int .i64 (up q0), .int .i64 (dn q0)] 29)) w6.heap.size 29 (fc [sumQ ws G 0]) := by rw [HQ0.out]; exact Blk.made w6 #[.int .i64 (up q0), .int .i64 (dn q0)] 29
    have K6 := Lib.hid k6
    have R1 := Lib.hid ((R1.out.below b6).below (below_alloc (o := .cells #[.int .i64 (up q0), .int .i64 (dn q0)] 29)))
    have R2 := Lib.hid ((R2.out.below b6).below (below_alloc (o := .cells #[.int .i64 (up q0), .int .i64 (dn q0)] 29)))
    have B6 : Below w.heap.size w (w6.alloc (.cells #[.int .i64 (up q0), .int .i64 (dn q0)] 29)) := (B5.trans (b6.mono B5.size)).alloc (by have := B5.size; omega) _
    have hl3 := HK3.out.lt
    obtain ⟨g6, hg6⟩ : ∃ g6, w6.heap.size = g6 := ⟨_, rfl⟩
    have hz6 : w.heap.size ≤ g6 := by have := B5.size; omega
    have hg36 : g3 ≠ g6 := by omega
    have hg16 : g1 ≠ g6 := by omega
    have hg26 : g2 ≠ g6 := by omega
    rw [hg6] at K6 ⊢
    clear b6 k6 HK3 B5 t1
    go_loopw [7, 8] (fun v7 v8 wr => ∃ k : Nat, k ≤ xs.length ∧ v8 = .int .i64 k ∧ v7 = .int .i64 (wsum xs ws 0 k) ∧ Blk wr g6 29 (fc [sumQ ws G k]) ∧ Blk wr g3 29 (fc (tab G xs.length)) ∧ RowI wr g1 0 xs ∧ RowI wr g2 0 ws ∧ Below w.heap.size w wr)
      (fun _ v8 _ => xs.length - (intOf v8).toNat)
    case atStart => exact ⟨0, Nat.zero_le _, rfl, rfl, K6.out, K3.out, R1.out, R2.out, B6⟩
    case round =>
      clear K6 K3 R1 R2 B6
      obtain ⟨k, hk, rfl, rfl, hk6, hk3, hr1, hr2, hb⟩ := hrel
      by_cases hlt : k < xs.length
      · have s1 := SM.out k hlt
        have s3 := SO.out k hk
        have bw := HV.out.w k hlt
        have bx := HV.out.x k hlt
        have e1 : sumQ ws G (k + 1) = sumQ ws G k + G k * (gi ws k : Rat) := rfl
        have d1 := hk3.f0 (k := k) (by rw [tab_length]; exact hlt)
        have d2 := hk3.f1 (k := k) (by rw [tab_length]; exact hlt)
        rw [gq_tab hlt] at d1 d2
        have d3 := hr1.cell k hlt
        have d4 := hr2.cell k (by rw [HNW.out]; exact hlt)
        rw [Nat.zero_add] at d3 d4
        have hlw : k < ws.length := by rw [HNW.out]; exact hlt
        have o1 := hk6.f0 (k := 0) (by simp)
        have o2 := hk6.f1 (k := 0) (by simp)
        have f1 := hk6.frozen 0
        have f2 := hk6.frozen 1
        have l6 := hk6.lt
        simp only [Nat.zero_mul, Nat.zero_add, show gq [sumQ ws G k] 0 = sumQ ws G k from rfl] at o1 o2
        have wb := wsum_bd HV.out 0 k (by omega)
        have pb := prod_bd bx bw
        have e2 : wsum xs ws 0 (k + 1) = wsum xs ws 0 k + gi xs k * gi ws k := by simp [wsum]
        rw [← qd_one (gi ws k)] at e1
        obtain ⟨fr, hfr⟩ : ∃ fr, G k = fr := ⟨_, rfl⟩
        obtain ⟨x, hx⟩ : ∃ x, gi xs k = x := ⟨_, rfl⟩
        obtain ⟨wt, hwt⟩ : ∃ wt, gi ws k = wt := ⟨_, rfl⟩
        obtain ⟨ou, hou⟩ : ∃ ou, sumQ ws G k = ou := ⟨_, rfl⟩
        rw [hfr] at s1 e1 d1 d2
        rw [hx] at d3 bx e2 pb
        rw [hwt] at e1 d4 bw e2 pb
        rw [hou] at s3 e1 o1 o2
        obtain ⟨wq, hwq⟩ : ∃ wq, qd wt 1 = wq := ⟨_, rfl⟩
        rw [hwq] at e1
        obtain ⟨t, ht⟩ : ∃ t, fr * wq = t := ⟨_, rfl⟩
        rw [ht] at e1
        obtain ⟨on, hon⟩ : ∃ on, sumQ ws G (k + 1) = on := ⟨_, rfl⟩
        rw [hon] at e1
        have sw : Sm 5 1 wq := ⟨by rw [← hwq, up_qd]; omega, by rw [← hwq, up_qd]; omega, by rw [← hwq, dn_qd]; omega⟩
        have st : Sm (1200 * 5) (40 * 1) t := by rw [← ht]; exact sm_prod s1 sw
        have m1 := sm_mul s1 sw
        have m2 := sm_mul s3 st
        have p1 : (up fr * up wq).natAbs ≤ 1200 * 5 := by rw [Int.natAbs_mul]; exact Nat.mul_le_mul (by have := s1.1; have := s1.2.1; omega) (by have := sw.1; have := sw.2.1; omega)
        have WW := Lib.hid (fun w => lfrac_as wt 1 wq hwq w (by omega) (by omega) (by omega) (by omega) (by omega))
        have TW := Lib.hid (fun w => ltimes_any fr wq t ht w (by omega) (by omega))
        have PW := Lib.hid (fun w => lplus_any ou t on e1.symm w (by omega) (by omega))
        have HON := Lib.hid hon
        have HE2 := Lib.hid e2
        have HFR := Lib.hid hfr
        have HX := Lib.hid hx
        have HWT := Lib.hid hwt
        have K6 := Lib.hid hk6
        have K3 := Lib.hid hk3
        have RR1 := Lib.hid hr1
        have RR2 := Lib.hid hr2
        have HB := Lib.hid hb
        have hz := hb.size
        clear s1 s3 e1 hfr hx hwt hou hwq ht hon sw st m1 m2 p1 hk6 hk3 hr1 hr2 hb
        obtain ⟨ι, W, hW0, hWm, hWb⟩ := good_worlds wr
        have hWn : Nonempty ι := hW0.elim fun i _ => ⟨i⟩
        have y1 : ∀ i, (W i).cell? ⟨g6, 0, none⟩ = some (.int .i64 (up ou)) := fun i => keepC (hWb i) o1
        have y2 : ∀ i, (W i).cell? ⟨g6, 1, none⟩ = some (.int .i64 (dn ou)) := fun i => keepC (hWb i) o2
        have y3 : ∀ i, (W i).cell? ⟨g3, k * 2, none⟩ = some (.int .i64 (up fr)) := fun i => keepC (hWb i) d1
        have y4 : ∀ i, (W i).cell? ⟨g3, k * 2 + 1, none⟩ = some (.int .i64 (dn fr)) := fun i => keepC (hWb i) d2
        have y5 : ∀ i, (W i).cell? ⟨g2, k, none⟩ = some (.int .i64 wt) := fun i => keepC (hWb i) d4
        have y6 : ∀ i, (W i).frozen? ⟨g6, 0, none⟩ = false := fun i => keepF (hWb i) l6 f1
        have y7 : ∀ i, (W i).frozen? ⟨g6, 1, none⟩ = false := fun i => keepF (hWb i) l6 f2
        go_upto_region 12 with fail
        (refine region_quiet_tail (C := fun w' => ∃ i, w' = W i) 12 (by kernel_rfl) (by kernel_rfl) hW0 ?_; simp only [List.take_succ_cons, List.take_zero, List.drop_succ_cons, List.drop_zero]; (repeat (go_big_quiet_step (first
          | (go_at_call 33; exact (WW.out _).mono fun e w'' h => ⟨h.1, hWm _ _ h.2⟩)
          | (go_at_call 44; exact (TW.out _).mono fun e w'' h => ⟨h.1, hWm _ _ h.2⟩)
          | (go_at_call 43; exact (PW.out _).mono fun e w'' h => ⟨h.1, hWm _ _ h.2⟩)))); refine wpQuiet_nil ?_; rintro _ ⟨iw, rfl⟩)
        have f6 : ∀ i, g6 < (W i).heap.size := fun i => Nat.lt_of_lt_of_le l6 (hWb i).size
        go_upto_region 13 with fail
        refine wp_abstract (fun V => Blk V g6 29 (fc [on]) ∧ Blk V g3 29 (fc (tab G xs.length)) ∧ RowI V g1 0 xs ∧ RowI V g2 0 ws ∧ Below w.heap.size w V) ⟨(K6.out.below (hWb iw)).two (x := .int .i64 (up (sumQ ws G k))) (y := .int .i64 (dn (sumQ ws G k))) _ _, ((K3.out.below (hWb iw)).others (Ne.symm hg36)).others (Ne.symm hg36), ?_, ?_, ((HB.out.trans ((hWb iw).mono hz)).setCell hz6 _).setCell hz6 _⟩ ?_
        · exact ((RR1.out.below (hWb iw)).others hg16).others hg16
        · exact ((RR2.out.below (hWb iw)).others hg26).others hg26
        rintro V ⟨v6, v3, vr1, vr2, vb⟩
        have d5 := vr1.cell k hlt
        have d6 := vr2.cell k hlw
        rw [HX.out, Nat.zero_add] at d5
        rw [HWT.out, Nat.zero_add] at d6
        have q1 : IntKind.i64.wrap (x * wt) = x * wt := IntWalk.i64_in _ (by omega)
        have q2 : IntKind.i64.wrap (wsum xs ws 0 k + x * wt) = wsum xs ws 0 k + x * wt := IntWalk.i64_in _ (by omega)
        go_quiet (fail)
        have vb2 := Below.drewN vb nq
        obtain ⟨V2, hV2⟩ : ∃ V2 : World, V2 = V.drewN nq := ⟨_, rfl⟩
        have bV : Below V.heap.size V V2 := by rw [hV2]; exact Below.drewN (Below.refl _ _) _
        rw [← hV2] at vb2
        have v6 := v6.below bV
        have v3 := v3.below bV
        have vr1 := vr1.below bV
        have vr2 := vr2.below bV
        clear d5 d6 bV d1 d2 d3 d4 o1 o2 f1 f2 y1 y2 y3 y4 y5 y6 y7 f6 hW0 hWm hWb hWn vb
        by_cases hC : Clm xs xs.length
        · go_wp2_with fail
          rw [← hV2]
          clear hV2
          have hx1 : qd x 1 = fr := by rw [qd_one, ← HX.out, ← HFR.out]; exact (CL.out hC k hlt).symm
          have XW := Lib.hid (fun w => lfrac_as x 1 fr hx1 w (by omega) (by omega) (by omega) (by omega) (by omega))
          have d1 := v3.f0 (k := k) (by rw [tab_length]; exact hlt)
          have d2 := v3.f1 (k := k) (by rw [tab_length]; exact hlt)
          rw [gq_tab hlt, HFR.out] at d1 d2
          have d3 := vr1.cell k hlt
          rw [HX.out, Nat.zero_add] at d3
          obtain ⟨ι, W, hW0, hWm, hWb⟩ := good_worlds V2
          have hWn : Nonempty ι := hW0.elim fun i _ => ⟨i⟩
          have CW : ∀ i, Calls Try.prog 45 #[.slice (some ⟨g1, 0, none⟩) xs.length c1] (W i) fun e w' => e = .returned (.bool true) ∧ ∃ j, w' = W j := fun i => (climbs_any g1 0 c1 xs _ (vr1.below (hWb i)) (by omega)).mono fun e w'' ⟨v, h1, h2, h3⟩ => by
            cases v with
            | false => exact absurd (h2.2 hC) (by simp)
            | true => exact ⟨h1, hWm _ _ h3⟩
          have CW := Lib.hid CW
          have y1 : ∀ i, (W i).cell? ⟨g3, k * 2, none⟩ = some (.int .i64 (up fr)) := fun i => keepC (hWb i) d1
          have y2 : ∀ i, (W i).cell? ⟨g3, k * 2 + 1, none⟩ = some (.int .i64 (dn fr)) := fun i => keepC (hWb i) d2
          have y3 : ∀ i, (W i).cell? ⟨g1, k, none⟩ = some (.int .i64 x) := fun i => keepC (hWb i) d3
          have V6 := Lib.hid v6
          have V3 := Lib.hid v3
          have VR1 := Lib.hid vr1
          have VR2 := Lib.hid vr2
          clear v6 v3 vr1 vr2 d1 d2 d3 hx1 hC
          (refine region_quiet_tail (C := fun w' => ∃ i, w' = W i) 13 (by kernel_rfl) (by kernel_rfl) hW0 ?_; simp only [List.take_succ_cons, List.take_zero, List.drop_succ_cons, List.drop_zero]; (repeat (go_big_quiet_step (first
            | (go_at_call 45; exact CW.out _)
            | (go_at_call 33; exact (XW.out _).mono fun e w'' h => ⟨h.1, hWm _ _ h.2⟩)))); refine wpQuiet_nil ?_; rintro _ ⟨iw, rfl⟩)
          go_wp2_with fail
          go_roundw
          case rel =>
            exact ⟨k + 1, by omega, by go_num, by rw [HE2.out], by rw [HON.out]; exact V6.out.below (hWb iw), V3.out.below (hWb iw), VR1.out.below (hWb iw), VR2.out.below (hWb iw), vb2.trans ((hWb iw).mono vb2.size)⟩
          case measure => simp [intOf]; omega
        · go_wp2_with fail
          rw [← hV2]
          clear hV2
          obtain ⟨ι, W, hW0, hWm, hWb⟩ := good_worlds V2
          have hWn : Nonempty ι := hW0.elim fun i _ => ⟨i⟩
          have CW : ∀ i, Calls Try.prog 45 #[.slice (some ⟨g1, 0, none⟩) xs.length c1] (W i) fun e w' => e = .returned (.bool false) ∧ ∃ j, w' = W j := fun i => (climbs_any g1 0 c1 xs _ (vr1.below (hWb i)) (by omega)).mono fun e w'' ⟨v, h1, h2, h3⟩ => by
            cases v with
            | false => exact ⟨h1, hWm _ _ h3⟩
            | true => exact absurd (h2.1 rfl) hC
          have CW := Lib.hid CW
          have V6 := Lib.hid v6
          have V3 := Lib.hid v3
          have VR1 := Lib.hid vr1
          have VR2 := Lib.hid vr2
          clear v6 v3 vr1 vr2 hC
          (refine region_quiet_tail (C := fun w' => ∃ i, w' = W i) 13 (by kernel_rfl) (by kernel_rfl) hW0 ?_; simp only [List.take_succ_cons, List.take_zero, List.drop_succ_cons, List.drop_zero]; (repeat (go_big_quiet_step ((go_at_call 45; exact CW.out _)))); refine wpQuiet_nil ?_; rintro _ ⟨iw, rfl⟩)
          go_wp2_with fail
          go_roundw
          case rel =>
            exact ⟨k + 1, by omega, by go_num, by rw [HE2.out], by rw [HON.out]; exact V6.out.below (hWb iw), V3.out.below (hWb iw), VR1.out.below (hWb iw), VR2.out.below (hWb iw), vb2.trans ((hWb iw).mono vb2.size)⟩
          case measure => simp [intOf]; omega
      · have hkn : k = xs.length := by omega
        rw [hkn, AL.out] at hk6
        rw [hkn]
        clear hk3 hr1 hr2
        have wb := wsum_bd HV.out 0 xs.length (by omega)
        have hq1 : qd (wsum xs ws 0 xs.length) 1 = (wsum xs ws 0 xs.length : Rat) := qd_one _
        obtain ⟨wt, hwt⟩ : ∃ wt, wsum xs ws 0 xs.length = wt := ⟨_, rfl⟩
        rw [hwt] at hk6 hq1 wb ⊢
        obtain ⟨q, hq⟩ : ∃ q : Rat, (wt : Rat) = q := ⟨_, rfl⟩
        rw [hq] at hk6 hq1
        have WQ := Lib.hid (fun w => lfrac_as wt 1 q hq1 w (by omega) (by omega) (by omega) (by omega) (by omega))
        have o1 := hk6.f0 (k := 0) (by simp)
        have o2 := hk6.f1 (k := 0) (by simp)
        simp only [Nat.zero_mul, Nat.zero_add, show gq [q] 0 = q from rfl] at o1 o2
        have HB := Lib.hid hb
        have hz := hb.size
        clear hk6 hq1 hwt hq hkn hb
        obtain ⟨ι, W, hW0, hWm, hWb⟩ := good_worlds wr
        have hWn : Nonempty ι := hW0.elim fun i _ => ⟨i⟩
        have y1 : ∀ i, (W i).cell? ⟨g6, 0, none⟩ = some (.int .i64 (up q)) := fun i => keepC (hWb i) o1
        have y2 : ∀ i, (W i).cell? ⟨g6, 1, none⟩ = some (.int .i64 (dn q)) := fun i => keepC (hWb i) o2
        go_upto_region 16 with fail
        (refine region_quiet_tail (C := fun w' => ∃ i, w' = W i) 4 (by kernel_rfl) (by kernel_rfl) hW0 ?_; simp only [List.take_succ_cons, List.take_zero, List.drop_succ_cons, List.drop_zero]; (repeat (go_big_quiet_step ((go_at_call 33; exact (WQ.out _).mono fun e w'' h => ⟨h.1, hWm _ _ h.2⟩)))); refine wpQuiet_nil ?_; rintro _ ⟨iw, rfl⟩)
        go_wp2_with fail
        go_ret
        exact ⟨rfl, HB.out.trans ((hWb iw).mono hz)⟩

set_option maxHeartbeats 1000000 in
theorem FnRiseByMeans_long (ad : Option Addr) (n c : Nat) (w : World) (h : 1048576 < n) (h1 : n ≤ 9223372036854775807) :
    Calls Try.prog 8 #[.slice ad n c] w fun e w' => e = .returned (.bool true) ∧ Below w.heap.size w w' := by
  go_enter Try.func8, Try.ntmps8
  go_wp2_with fail
  go_ret
  exact ⟨rfl, Below.refl _ _⟩

end Go.Proofs.Ytcmbfkdhfdiamaa
