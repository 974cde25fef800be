/- The law laws.FnRiseByHull returns true for all codes, and changes no memory that was there. -/
import Derived.Test.YtcmbfkdhfdiamaaHullAll
import Derived.Test.YtcmbfkdhfdiamaaMissP
import Derived.Test.YtcmbfkdhfdiamaaDraws
namespace Go.Proofs.Ytcmbfkdhfdiamaa
open Go.RowKit

theorem vlB_of {xs ws : List Int} (h : Vl xs ws) : vlB xs ws = true := by
  have h0 := h.n0
  have h8 := h.n8
  have hw := h.nw
  simp only [vlB, Bool.and_eq_true]
  exact ⟨⟨⟨inB_iff.2 (by omega), by simp [hw]⟩, allB_iff.2 fun k hk => inB_iff.2 (h.x k hk)⟩, allB_iff.2 fun k hk => inB_iff.2 (h.w k (by omega))⟩

set_option maxHeartbeats 8000000 in
set_option maxRecDepth 100000 in
theorem FnRiseByHull_main (ad : Option Addr) (n c : Nat) (w : World) (h : CodeB w w.heap.size ad n) (hn : n ≤ 1048576) (hc : n ≤ c) :
    Calls Try.prog 5 #[.slice ad n c] w fun e w' => e = .returned (.bool true) ∧ Below w.heap.size w w' := by
  have H := Lib.hid h
  clear h
  go_enter Try.func5, Try.ntmps5
  go_wp2_with fail
  refine (drawRiseByHull_any ad n c w H.out (by omega) hc).mono ?_
  rintro e w2 ⟨g1, c1, g2, c2, xs, ws, rfl, k1, k2, r1, r2, l1, l2, hb2⟩
  have R1 := Lib.hid r1
  have R2 := Lib.hid r2
  have z2 := hb2.size
  clear r1 r2
  obtain ⟨F, hF⟩ : ∃ F, rbbV xs ws = F := ⟨_, rfl⟩
  obtain ⟨m, hm⟩ : ∃ m, F.length = m := ⟨_, rfl⟩
  have hm2 : m ≤ 1048576 := by rw [← hm, ← hF]; exact rbbV_le xs ws (by omega)
  have HF := Lib.hid hF
  have HM := Lib.hid hm
  clear hF hm
  go_wp2_with fail
  refine (riseByHull_all g1 0 c1 g2 0 c2 xs ws _ R1.out R2.out (by omega) (by omega)).mono ?_
  rintro e w3 ⟨v3, rfl, m3, b3⟩
  rw [HF.out, HM.out] at m3
  have M3 := Lib.hid m3
  have z3 := b3.size
  have R1 := Lib.hid (R1.out.below b3)
  have R2 := Lib.hid (R2.out.below b3)
  have B3 : Below w.heap.size w w3 := hb2.trans (b3.mono z2)
  clear b3 hb2 m3
  go_wp2_with fail
  refine (sriseByHull_all g1 0 c1 g2 0 c2 xs ws _ R1.out R2.out (by omega) (by omega)).mono ?_
  rintro e w4 ⟨v4, rfl, m4, b4⟩
  rw [HF.out, HM.out] at m4
  have z4 := b4.size
  have R1 := Lib.hid (R1.out.below b4)
  have R2 := Lib.hid (R2.out.below b4)
  have M3 := Lib.hid (M3.out.below b4)
  have B4 : Below w.heap.size w w4 := B3.trans (b4.mono (by omega))
  clear b4 B3
  go_wp2_with fail
  refine (equalFracs_any _ _ _ _ m F _ M3.out m4 HM.out hm2).mono ?_
  rintro e w5 ⟨rfl, b5⟩
  have z5 := b5.size
  have R1 := Lib.hid (R1.out.below b5)
  have R2 := Lib.hid (R2.out.below b5)
  have M3 := Lib.hid (M3.out.below b5)
  have B5 : Below w.heap.size w w5 := B4.trans (b5.mono (by omega))
  clear b5 B4 m4
  cases hv : vlB xs ws with
  | false =>
    have hF0 : F = [] := by rw [← HF.out]; simp [rbbV, hv]
    have hm0 : m = 0 := by rw [← HM.out, hF0]; rfl
    subst hm0
    obtain ⟨ao, ac, rfl⟩ : ∃ ao ac, v3 = .slice ao 0 ac := by
      rcases M3.out with ⟨h, _, _⟩ | ⟨g, cap, h, _, _⟩
      · exact ⟨none, 0, h⟩
      · exact ⟨_, _, h⟩
    go_wp2_with fail
    refine (sriseByHull_all g1 0 c1 g2 0 c2 xs ws _ R1.out R2.out (by omega) (by omega)).mono ?_
    rintro e w6 ⟨v6, rfl, m6, b6⟩
    rw [HF.out, HM.out] at m6
    have M3 := Lib.hid (M3.out.below b6)
    have B6 : Below w.heap.size w w6 := B5.trans (b6.mono (by omega))
    clear b6 B5
    go_wp2_with fail
    refine (equalFracs_any _ _ _ _ 0 F _ M3.out m6 HM.out (by omega)).mono ?_
    rintro e w7 ⟨rfl, b7⟩
    have B7 : Below w.heap.size w w7 := B6.trans (b7.mono B6.size)
    clear b7 B6 m6
    go_wp2_with fail
    go_ret
    exact ⟨rfl, B7⟩
  | true =>
    have hvl := vl_of hv
    have hn8 := hvl.n8
    have hn0 := hvl.n0
    have HNW := Lib.hid hvl.nw
    have hd := poolR_dec1 (xs := xs) (ws := ws)
    have h0 := poolR_first (xs := xs) (ws := ws) hn0
    have hFG : F = tab (bmq xs ws (poolR xs ws xs.length)) xs.length := by rw [← HF.out]; simp only [rbbV, hv, if_true]; rfl
    have hmx : m = xs.length := by rw [← HM.out, hFG, tab_length]
    have hsm : SmAll 1200 40 F := by rw [hFG]; exact SmAll.tab fun j hj => bmq_sm hvl hd h0 hj
    have hgq : ∀ j, j < xs.length → gq F j = bestQ xs ws j := fun j hj => by rw [hFG, gq_tab hj, best_eq hvl hj]
    subst hmx
    have SM := Lib.hid hsm
    have GQ := Lib.hid hgq
    have HV := Lib.hid hvl
    have t1 : ((xs.length : Int) == 0) = false := by rw [beq_eq_false_iff_ne]; omega
    clear hFG hsm hgq hvl hd h0
    obtain ⟨g3, cap3, rfl, hg3, hk3⟩ := M3.out.shape (by omega)
    have HK3 := Lib.hid hk3
    clear hk3 M3
    go_wp2_with fail
    refine (turned_any g1 0 c1 xs _ R1.out (by omega)).mono ?_
    rintro e w6 ⟨v6, rfl, o6, b6⟩
    have z6 := b6.size
    have R2 := Lib.hid (R2.out.below b6)
    have HK3 := Lib.hid (HK3.out.below b6)
    have B6 : Below w.heap.size w w6 := B5.trans (b6.mono (by omega))
    obtain ⟨g6, cap6, rfl, hg6⟩ := o6.shape (by omega)
    have hr6 := o6.row
    obtain ⟨ys, hys⟩ : ∃ ys, tabI (fun j => gi xs (xs.length - 1 - j)) xs.length = ys := ⟨_, rfl⟩
    rw [hys] at hr6
    have hyl : ys.length = xs.length := by rw [← hys, tabI_length]
    have hyj : ∀ j, j < ys.length → gi ys j = gi xs (xs.length - 1 - j) := fun j hj => by rw [← hys]; exact gi_tabI (by omega)
    have HR6 := Lib.hid hr6
    have HYJ := Lib.hid hyj
    have HYL := Lib.hid hyl
    clear b6 B5 o6 hr6 hys hyj hyl
    rw [← HYL.out]
    go_wp2_with fail
    refine (negated_any g6 0 cap6 ys _ HR6.out (by have := HYL.out; omega) (fun k hk => by have := HYL.out; have := HV.out.x (xs.length - 1 - k) (by omega); rw [HYJ.out k hk]; omega)).mono ?_
    rintro e w7 ⟨v7, rfl, o7, b7⟩
    have z7 := b7.size
    have R2 := Lib.hid (R2.out.below b7)
    have HK3 := Lib.hid (HK3.out.below b7)
    have B7 : Below w.heap.size w w7 := B6.trans (b7.mono (by omega))
    obtain ⟨g7, cap7, rfl, hg7⟩ := o7.shape (by have := HYL.out; omega)
    have hr7 := o7.row
    have e7 : tabI (fun j => - gi ys j) ys.length = trn xs := by
      have := HYL.out
      refine eq_of_gi (by rw [tabI_length, trn_length]; omega) fun k hk => ?_
      rw [tabI_length] at hk
      rw [gi_tabI hk, HYJ.out k hk, gi_trn (by omega)]
    rw [e7] at hr7
    have HR7 := Lib.hid hr7
    clear b7 B6 o7 hr7 e7 HR6
    go_wp2_with fail
    refine (turned_any g2 0 c2 ws _ R2.out (by omega)).mono ?_
    rintro e w8 ⟨v8, rfl, o8, b8⟩
    have z8 := b8.size
    have HK3 := Lib.hid (HK3.out.below b8)
    have HR7 := Lib.hid (HR7.out.below b8)
    have B8 : Below w.heap.size w w8 := B7.trans (b8.mono (by omega))
    obtain ⟨g8, cap8, rfl, hg8⟩ := o8.shape (by have := HNW.out; omega)
    have hr8 := o8.row
    have e8 : tabI (fun j => gi ws (ws.length - 1 - j)) ws.length = ws.reverse := by
      refine eq_of_gi (by rw [tabI_length, List.length_reverse]) fun k hk => ?_
      rw [tabI_length] at hk
      rw [gi_tabI hk, gi_reverse hk]
    rw [e8] at hr8
    have HR8 := Lib.hid hr8
    clear b8 B7 o8 hr8 e8
    obtain ⟨xs', hxs'⟩ : ∃ xs', trn xs = xs' := ⟨_, rfl⟩
    obtain ⟨ws', hws'⟩ : ∃ ws', ws.reverse = ws' := ⟨_, rfl⟩
    have hxl : xs'.length = ys.length := by rw [← hxs', trn_length]; exact HYL.out.symm
    have hwl : ws'.length = ws.length := by rw [← hws', List.length_reverse]
    have hfb : rbbV xs' ws' = tab (fun j => - bestQ xs ws (xs.length - 1 - j)) xs.length := by
      rw [← rbmV_eq, ← hxs', ← hws']
      unfold rbmV
      rw [if_pos (vlB_of (vl_trn HV.out))]
      unfold rbm
      rw [trn_length]
      unfold tab
      apply List.map_congr_left
      intro x hx
      exact best_trn HV.out (List.mem_range.1 hx)
    rw [hxs'] at HR7
    rw [hws'] at HR8
    rw [← hxl, ← hwl]
    have HXL := Lib.hid hxl
    have HWL := Lib.hid hwl
    have HFB := Lib.hid hfb
    clear hxl hwl hfb hxs' hws'
    go_wp2_with fail
    refine (riseByHull_all g7 0 cap7 g8 0 cap8 xs' ws' _ HR7.out HR8.out (by have := HXL.out; have := HYL.out; omega) (by have := HWL.out; have := HNW.out; omega)).mono ?_
    rintro e w9 ⟨v9, rfl, m9, b9⟩
    rw [HFB.out, tab_length] at m9
    have z9 := b9.size
    have HK3 := Lib.hid (HK3.out.below b9)
    have B9 : Below w.heap.size w w9 := B8.trans (b9.mono (by omega))
    obtain ⟨g9, cap9, rfl, hg9, hk9⟩ := m9.shape (by omega)
    have HK9 := Lib.hid hk9
    rw [HXL.out, HWL.out, HYL.out]
    clear b9 B8 HR7 HR8 HXL HWL HYL HYJ m9 hk9 HFB R1 R2 HF
    go_wp2_with fail
    go_loopw [8] (fun v8 wr => ∃ k : Nat, k ≤ xs.length ∧ v8 = .int .i64 k ∧ Below w9.heap.size w9 wr) (fun v8 _ => xs.length - (intOf v8).toNat)
    case atStart => exact ⟨0, Nat.zero_le _, rfl, Below.refl _ _⟩
    case round =>
      obtain ⟨k, hk, rfl, hb⟩ := hrel
      by_cases hlt : k < xs.length
      · obtain ⟨x, hx⟩ : ∃ x, xs.length - 1 - k = x := ⟨_, rfl⟩
        have hk3 := HK3.out.below hb
        have hk9 := HK9.out.below hb
        have d1 := hk9.f0 (k := k) (by rw [tab_length]; exact hlt)
        have d2 := hk9.f1 (k := k) (by rw [tab_length]; exact hlt)
        rw [gq_tab hlt, hx] at d1 d2
        have d3 := hk3.f0 (k := x) (by rw [HM.out]; omega)
        have d4 := hk3.f1 (k := x) (by rw [HM.out]; omega)
        have s1 := SM.out x (by rw [HM.out]; omega)
        rw [GQ.out x (by omega)] at d3 d4 s1
        obtain ⟨q, hq⟩ : ∃ q, bestQ xs ws x = q := ⟨_, rfl⟩
        rw [hq] at d1 d2 d3 d4 s1
        rw [up_neg] at d1
        rw [dn_neg] at d2
        have hqq : qd (-(up q)) (dn q) = -q := by rw [← up_neg, ← dn_neg]; exact qd_up_dn _
        obtain ⟨u, hu⟩ : ∃ u, up q = u := ⟨_, rfl⟩
        obtain ⟨d, hd⟩ : ∃ d, dn q = d := ⟨_, rfl⟩
        rw [hu] at d1 d3 hqq
        rw [hd] at d2 d4 hqq
        have su : -1200 ≤ u ∧ u ≤ 1200 := by rw [← hu]; exact ⟨s1.1, s1.2.1⟩
        have sd : 1 ≤ d ∧ d ≤ 40 := by rw [← hd]; exact ⟨dn_pos q, s1.2.2⟩
        have hfw := fun w => lfrac_as (-u) d (-q) hqq w (by omega) (by omega) (by omega) (by omega) (by omega)
        rw [up_neg, dn_neg, hu, hd] at hfw
        have FW := Lib.hid hfw
        have hxl : x < xs.length := by omega
        have q1 : IntKind.i64.wrap ((xs.length : Int) - 1) = (xs.length : Int) - 1 := IntWalk.i64_in _ (by omega)
        have q2 : IntKind.i64.wrap ((xs.length : Int) - 1 - k) = (x : Int) := by rw [IntWalk.i64_in _ (by omega)]; omega
        have q3 : IntKind.i64.wrap (-u) = -u := IntWalk.i64_in _ (by omega)
        have HB := Lib.hid hb
        clear hfw hqq hu hd hq hx hk3 hk9 s1 hb
        obtain ⟨ι, W, hW0, hWm, hWb⟩ := good_worlds wr
        have hWn : Nonempty ι := hW0.elim fun i _ => ⟨i⟩
        have y1 : ∀ i, (W i).cell? ⟨g9, k * 2, none⟩ = some (.int .i64 (-u)) := fun i => keepC (hWb i) d1
        have y2 : ∀ i, (W i).cell? ⟨g9, k * 2 + 1, none⟩ = some (.int .i64 d) := fun i => keepC (hWb i) d2
        have y3 : ∀ i, (W i).cell? ⟨g3, x * 2, none⟩ = some (.int .i64 u) := fun i => keepC (hWb i) d3
        have y4 : ∀ i, (W i).cell? ⟨g3, x * 2 + 1, none⟩ = some (.int .i64 d) := fun i => keepC (hWb i) d4
        go_upto_region 12 with fail
        (refine region_quiet_tail (C := fun w' => ∃ i, w' = W i) 22 (by kernel_rfl) (by kernel_rfl) hW0 ?_; simp only [List.take_succ_cons, List.take_zero, List.drop_succ_cons, List.drop_zero]; (repeat (go_big_quiet_step ((go_at_call 33; exact (FW.out _).mono fun e w'' h => ⟨h.1, hWm _ _ h.2⟩)))); refine wpQuiet_nil ?_; rintro _ ⟨iw, rfl⟩)
        go_wp2_with fail
        go_roundw
        case rel => exact ⟨k + 1, by omega, by go_num, HB.out.trans ((hWb iw).mono HB.out.size)⟩
        case measure => simp [intOf]; omega
      · have hkn : k = xs.length := by omega
        clear hkn
        go_wp2_with fail
        go_ret
        exact ⟨rfl, B9.trans (hb.mono B9.size)⟩

set_option maxHeartbeats 1000000 in
theorem FnRiseByHull_long (ad : Option Addr) (n c : Nat) (w : World) (h : 1048576 < n) (h1 : n ≤ 9223372036854775807) :
    Calls Try.prog 5 #[.slice ad n c] w fun e w' => e = .returned (.bool true) ∧ Below w.heap.size w w' := by
  go_enter Try.func5, Try.ntmps5
  go_wp2_with fail
  go_ret
  exact ⟨rfl, Below.refl _ _⟩

end Go.Proofs.Ytcmbfkdhfdiamaa
