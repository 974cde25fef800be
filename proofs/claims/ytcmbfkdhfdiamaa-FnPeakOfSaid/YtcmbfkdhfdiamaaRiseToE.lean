/- spec.riseTo at the whole list. -/
import Derived.Test.YtcmbfkdhfdiamaaRiseTo
namespace Go.Proofs.Ytcmbfkdhfdiamaa
open Go.RowKit

set_option maxHeartbeats 4000000 in
theorem riseTo_end (b o c b' o' c' k : Nat) (xs ws : List Int) (q : Rat) (w : World) (h : RowI w b o xs) (h' : RowI w b' o' ws) (hv : Vl xs ws) (hk : k = xs.length) (hc : xs.length ≤ c) (hc' : ws.length ≤ c') (hq : peakT xs ws k = q) :
    Calls Try.prog 79 #[.slice (some ⟨b, o, none⟩) xs.length c, .slice (some ⟨b', o', none⟩) ws.length c', .int .i64 k] w
      fun e w' => e = .returned (.agg #[.int .i64 (up q), .int .i64 (dn q)]) ∧ Below w.heap.size w w' := by
  have hn8 := hv.n8
  have hn0 := hv.n0
  have hnw := hv.nw
  have hv1 := vl_take hv (k := k) (by omega)
  have hv2 := vl_drop hv (k := k) (by omega)
  have e1 : (xs.take k).length = k := by rw [List.length_take]; omega
  have e2 : (ws.take k).length = k := by rw [List.length_take]; omega
  have e3 : (xs.drop k).length = xs.length - k := List.length_drop
  have e4 : (ws.drop k).length = ws.length - k := List.length_drop
  have hsq := peak_sm hv (k := k) (by omega)
  have s1 := miss0_sm hv1 (by omega)
  have s2 := miss0_sm hv2 (by rw [List.length_reverse]; omega)
  rw [hq] at hsq
  unfold peakT at hq
  obtain ⟨R1, hR1⟩ : ∃ R, poolR (xs.take k) (ws.take k) (xs.take k).length = R := ⟨_, rfl⟩
  obtain ⟨m1, hm1⟩ : ∃ m, R1.length = m := ⟨_, rfl⟩
  obtain ⟨R2, hR2⟩ : ∃ R, poolR (xs.drop k).reverse (ws.drop k).reverse (xs.drop k).reverse.length = R := ⟨_, rfl⟩
  obtain ⟨m2, hm2⟩ : ∃ m, R2.length = m := ⟨_, rfl⟩
  obtain ⟨p1, hp1⟩ : ∃ p, missR (xs.take k) (ws.take k) = p := ⟨_, rfl⟩
  obtain ⟨p2, hp2⟩ : ∃ p, missR (xs.drop k).reverse (ws.drop k).reverse = p := ⟨_, rfl⟩
  rw [hp1] at hq s1
  rw [hp2] at hq s2
  have ss := sm_mul s1 s2
  have hz0 : (0 : Rat) + p1 = p1 := by grind
  have u0 : up (0 : Rat) = 0 := rfl
  have d0 : dn (0 : Rat) = 1 := rfl
  obtain ⟨z0, hz00⟩ : ∃ z : Rat, 0 = z := ⟨_, rfl⟩
  have q00 : qd 0 1 = z0 := by rw [qd_one, ← hz00]; rfl
  rw [hz00] at hz0 u0 d0
  have s1a := s1.1
  have s1b := s1.2.1
  have s1c := s1.2.2
  have P1 := Lib.hid (fun w => splus_any z0 p1 p1 hz0 w (by rw [d0]; omega) (by rw [d0, u0]; simp; omega))
  have P2 := Lib.hid (fun w => splus_any p1 p2 q hq w (by omega) (by omega))
  have F0 := Lib.hid (fun w => sfrac_as 0 1 z0 q00 w (by omega) (by omega) (by omega) (by omega) (by omega))
  have HZ0 := Lib.hid hz00
  clear hz00
  have V1 := Lib.hid hv1
  have V2 := Lib.hid hv2
  have H := Lib.hid h
  have H' := Lib.hid h'
  have E1 := Lib.hid e1
  have E2 := Lib.hid e2
  have E3 := Lib.hid e3
  have E4 := Lib.hid e4
  have HR1 := Lib.hid hR1
  have HR2 := Lib.hid hR2
  have HM1 := Lib.hid hm1
  have HM2 := Lib.hid hm2
  have HP1 := Lib.hid hp1
  have HP2 := Lib.hid hp2
  have HNW := Lib.hid hnw
  have HPQ := Lib.hid hq
  clear h h' hv hv1 hv2 hsq hq e1 e2 e3 e4 s1 s2 ss hR1 hR2 hm1 hm2 hp1 hp2 hz0 u0 d0 q00 s1a s1b s1c
  have hqp : p1 = q := by
    have h2 : p2 = 0 := by
      have e5 := E3.out
      have e6 := E4.out
      rw [← HP2.out, List.eq_nil_of_length_eq_zero (l := xs.drop k) (by omega), List.eq_nil_of_length_eq_zero (l := ws.drop k) (by have := HNW.out; omega)]
      rfl
    have := HPQ.out
    rw [h2] at this
    grind
  subst hqp
  have hk0 : k ≠ 0 := by omega
  have ha0 : decide (0 < k) = true := by rw [decide_eq_true_eq]; omega
  have hn0' : xs.length - k = 0 := by omega
  have hkx := Lib.hid hk
  have hkle : k ≤ xs.length := by omega
  have hkc : k ≤ c := by omega
  have hkc' : k ≤ c' := by omega
  clear hnw hk
  by_cases hck : c = k
  all_goals
    go_enter Try.func79, Try.ntmps79
    go_wp2_with (first
      | (go_at_call 107; refine (sturned_nil _ _ _).mono ?_; rintro e w1 ⟨a8, cap8, rfl, hb1⟩; have hz1 := hb1.size; simp only [World.size_alloc] at hz1; have k6 := (Blk.made w #[.int .i64 0, .int .i64 0] 29).below hb1; have bA : Below w.heap.size w w1 := below_alloc.trans (hb1.mono (by simp)))
      | (go_at_call 100; refine (F0.out _).mono ?_; rintro e w2 ⟨rfl, hb2⟩; have hz2 := hb2.size; have k6 := k6.below hb2; have bB : Below w.heap.size w w2 := bA.trans (hb2.mono (by omega))))
    obtain ⟨v3, hv3⟩ : ∃ v3 : World, v3 = w2.alloc (.cells #[.int .i64 (up z0), .int .i64 (dn z0)] 29) := ⟨_, rfl⟩
    obtain ⟨g9, hg9⟩ : ∃ g9, w2.heap.size = g9 := ⟨_, rfl⟩
    have b3 : Below w2.heap.size w2 v3 := by rw [hv3]; exact below_alloc
    have k9 : Blk v3 g9 29 (fc [z0]) := by rw [hv3, ← hg9]; exact Blk.made w2 #[.int .i64 (up z0), .int .i64 (dn z0)] 29
    have K6 := Lib.hid (k6.below b3)
    have K9 := Lib.hid k9
    have B3 : Below w.heap.size w v3 := bB.trans (b3.mono bB.size)
    have hz9 : w.heap.size < g9 := by omega
    rw [hg9, ← hv3]
    clear hv3 b3 k9 k6 bB hg9
    have hvl1 : Vl (xs.take k) (ws.take k) := by
      rcases V1.out with ⟨h1, _⟩ | h1
      · exact absurd (by rw [← E1.out, h1]; rfl) hk0
      · exact h1
    have HV1 := Lib.hid hvl1
    have x1 := K9.out.cell (j := 0) rfl
    have x2 := K9.out.cell (j := 1) rfl
    have f1 := K9.out.frozen 0
    have f2 := K9.out.frozen 1
    have l9 := K9.out.lt
    have q1 : (0 : Int) ≤ (k : Int) := by omega
    have q2 : (k : Int) ≤ (c : Int) := by omega
    have q3 : (k : Int) ≤ (c' : Int) := by omega
    clear hvl1
    obtain ⟨ι, W, hW0, hWm, hWb⟩ := good_worlds v3
    have y1 : ∀ i, (W i).cell? ⟨g9, 0, none⟩ = some (.int .i64 (up z0)) := fun i => keepC (hWb i) x1
    have y2 : ∀ i, (W i).cell? ⟨g9, 1, none⟩ = some (.int .i64 (dn z0)) := fun i => keepC (hWb i) x2
    have r1 : ∀ i, RowI (W i) b o (xs.take k) := fun i => (H.out.take k).below (B3.trans ((hWb i).mono B3.size))
    have r2 : ∀ i, RowI (W i) b' o' (ws.take k) := fun i => (H'.out.take k).below (B3.trans ((hWb i).mono B3.size))
    have RR1 := Lib.hid r1
    have RR2 := Lib.hid r2
    clear r1 r2 x1 x2 f1 f2
    go_upto_region 5 with fail
    (refine region_read_tail (C := fun w' => ∃ i, w' = W i) 13 (by kernel_rfl) (by kernel_rfl) hW0 ?_; simp only [List.take_succ_cons, List.take_zero, List.drop_succ_cons, List.drop_zero]; (repeat (refine wpRead_step (v := ?_) (by rfl) ?_ ?_; rotate_left; (focus (rintro _ ⟨iz, rfl⟩; first | (go_simp; done) | (go_simp; with_reducible rfl))); (try simp only [Act.put, List.setIfInBounds_toArray, List.set_cons_zero, List.set_cons_succ]))); refine wpRead_nil ?_)
    obtain ⟨i0, e0⟩ := hW0
    rw [e0]
    refine chainS_two ?_
    go_wp2_with fail
    refine (pool_as b o _ b' o' _ k k m1 (xs.take k) (ws.take k) R1 _ (RR1.out _) (RR2.out _) HV1.out E1.out E2.out HR1.out HM1.out).mono ?_
    rintro e w4 ⟨g4, cap4, rfl, r4, hb4⟩
    obtain ⟨i4, rfl⟩ := hWm _ _ hb4
    go_wp2_with fail
    refine chainX_normal ⟨i4, rfl⟩ (chainS_two ?_)
    go_wp2_with fail
    refine (sspread_as b o _ b' o' _ g4 0 cap4 k k m1 (xs.take k) (ws.take k) R1 _ (RR1.out _) (RR2.out _) r4 HV1.out E1.out E2.out HR1.out HM1.out).mono ?_
    rintro e w5 ⟨g5, cap5, rfl, k5, hb5⟩
    obtain ⟨i5, rfl⟩ := hWm _ _ hb5
    go_wp2_with fail
    refine chainX_normal ⟨i5, rfl⟩ (chainS_two ?_)
    go_wp2_with fail
    refine (smissOf_as b o _ b' o' _ g5 cap5 k k (xs.take k) (ws.take k) p1 _ (RR1.out _) (RR2.out _) k5 HV1.out E1.out E2.out HP1.out).mono ?_
    rintro e w6 ⟨rfl, hb6⟩
    obtain ⟨i6, rfl⟩ := hWm _ _ hb6
    go_wp2_with fail
    refine chainX_normal ⟨i6, rfl⟩ (chainS_two ?_)
    go_wp2_with fail
    refine (P1.out _).mono ?_
    rintro e w7 ⟨rfl, hb7⟩
    obtain ⟨i7, rfl⟩ := hWm _ _ hb7
    go_wp2_with fail
    refine chainX_normal ⟨i7, rfl⟩ (chainS_one ?_)
    have b8 := hWb i7
    have kk9 := K9.out.below b8
    have ff1 := kk9.frozen 0
    have ff2 := kk9.frozen 1
    have y1 := kk9.cell (j := 0) rfl
    have y2 := kk9.cell (j := 1) rfl
    have l9' := kk9.lt
    have bb8 : Below w.heap.size w (W i7) := B3.trans (b8.mono B3.size)
    have kk6 := K6.out.below b8
    have u1 := kk6.cell (j := 0) rfl
    have u2 := kk6.cell (j := 1) rfl
    have gg1 := kk6.frozen 0
    have gg2 := kk6.frozen 1
    have l6 := kk6.lt
    have hne : w.heap.size ≠ g9 := by omega
    have kk6' := (kk6.other (a := ⟨g9, 0, none⟩) (.int .i64 (up p1)) (Ne.symm hne)).other (a := ⟨g9, 1, none⟩) (.int .i64 (dn p1)) (Ne.symm hne)
    have z1 := (kk6'.set 0 (.int .i64 (up p1))).cell (j := 0) rfl
    have z2 := ((kk6'.set 0 (.int .i64 (up p1))).set 1 (.int .i64 (dn p1))).cell (j := 1) rfl
    go_wp2_with fail
    refine bodyPost_ret (v := .agg #[.int .i64 (up p1), .int .i64 (dn p1)]) ?_ rfl ⟨rfl, ?_⟩
    · simp [results, Try.results79, go_sem, z1, z2]
    · exact (((bb8.setCell (by simp; omega) _).setCell (by simp; omega) _).setCell (Nat.le_refl _) _).setCell (Nat.le_refl _) _

end Go.Proofs.Ytcmbfkdhfdiamaa
