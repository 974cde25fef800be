/- spec.missOf. -/
import Derived.Test.YtcmbfkdhfdiamaaRiseMiss
import Derived.Test.YtcmbfkdhfdiamaaSSpread
namespace Go.Proofs.Ytcmbfkdhfdiamaa
open Go.RowKit

set_option maxHeartbeats 4000000 in
theorem smissOf_any (b o c b' o' c' g2 cap2 : Nat) (xs ws : List Int) (w : World) (h : RowI w b o xs) (h' : RowI w b' o' ws) (hg2 : Blk w g2 29 (fc (rbb xs ws))) (hv : Vl xs ws) :
    Calls Try.prog 67 #[.slice (some ⟨b, o, none⟩) xs.length c, .slice (some ⟨b', o', none⟩) ws.length c', .slice (some ⟨g2, 0, none⟩) xs.length cap2] w
      fun e w' => e = .returned (.agg #[.int .i64 (up (missR xs ws)), .int .i64 (dn (missR xs ws))]) ∧ Below w.heap.size w w' := by
  have hn8 := hv.n8
  have hn0 := hv.n0
  have HNW := Lib.hid hv.nw
  have HV := Lib.hid hv
  have H := Lib.hid h
  have H' := Lib.hid h'
  have hd := poolR_dec1 (xs := xs) (ws := ws)
  have h0 := poolR_first (xs := xs) (ws := ws) hn0
  obtain ⟨R, hR⟩ : ∃ R, poolR xs ws xs.length = R := ⟨_, rfl⟩
  rw [hR] at hd h0
  have hFF : rbb xs ws = tab (bmq xs ws R) xs.length := by unfold rbb; rw [hR]
  have hMM : missR xs ws = missQ xs ws (bmq xs ws R) xs.length := by unfold missR; rw [hR]
  obtain ⟨G, hG⟩ : ∃ G, bmq xs ws R = G := ⟨_, rfl⟩
  have hsm : ∀ j, j < xs.length → Sm 1200 40 (G j) := fun j hj => by rw [← hG]; exact bmq_sm hv hd h0 hj
  have hsd : ∀ j, j < xs.length → Sm 2400 40 (G j - (gi xs j : Rat)) := fun j hj => by rw [← hG]; exact (bmq_d hv hd h0 hj).1
  have hso : ∀ j, j ≤ xs.length → Sm 129600000000000 100000000 (missQ xs ws G j) := fun j hj => by rw [← hG]; exact miss_sm hv hd h0 hj
  rw [hG] at hFF hMM
  rw [hMM]
  obtain ⟨M, hMe⟩ : ∃ M, missQ xs ws G xs.length = M := ⟨_, rfl⟩
  rw [hMe]
  have HME := Lib.hid hMe
  clear hMe
  have SM := Lib.hid hsm
  have SD := Lib.hid hsd
  have SO := Lib.hid hso
  have HFF := Lib.hid hFF
  clear hd h0 hR hG hsm hsd hso hFF hMM h h' hv
  have hq0 : qd 0 1 = missQ xs ws G 0 := by rw [qd_one]; rfl
  obtain ⟨q0, hq⟩ : ∃ q, missQ xs ws G 0 = q := ⟨_, rfl⟩
  rw [hq] at hq0
  have W0 := Lib.hid (fun w => sfrac_as 0 1 q0 hq0 w (by omega) (by omega) (by omega) (by omega) (by omega))
  have HQ0 := Lib.hid hq
  clear hq0 hq
  have hbk2 := hg2
  rw [HFF.out] at hbk2
  have hlt2 := hg2.lt
  clear hg2
  go_enter Try.func67, Try.ntmps67
  go_wp2_with (go_at_call 100; refine (W0.out _).mono ?_; rintro e w1 ⟨rfl, hb1⟩; have hz1 := hb1.size; simp only [World.size_alloc] at hz1; have hbA : Below w.heap.size w w1 := below_alloc.trans (hb1.mono (by simp)); have hzA : w.heap.size ≤ w1.heap.size := (by omega))
  have hk4 : Blk (w1.alloc (.cells #[.int .i64 (up q0), .int .i64 (dn q0)] 29)) w.heap.size 29 [.int .i64 0, .int .i64 0] := ((Blk.made w #[.int .i64 0, .int .i64 0] 29).below hb1).below below_alloc
  have hk5 : Blk (w1.alloc (.cells #[.int .i64 (up q0), .int .i64 (dn q0)] 29)) w1.heap.size 29 (fc [missQ xs ws G 0]) := by rw [HQ0.out]; exact Blk.made w1 #[.int .i64 (up q0), .int .i64 (dn q0)] 29
  have hbk2 := (hbk2.below hbA).below (below_alloc (o := .cells #[.int .i64 (up q0), .int .i64 (dn q0)] 29))
  have hbB : Below w.heap.size w (w1.alloc (.cells #[.int .i64 (up q0), .int .i64 (dn q0)] 29)) := hbA.alloc hzA _
  obtain ⟨g5, hg5⟩ : ∃ g5, w1.heap.size = g5 := ⟨_, rfl⟩
  rw [hg5] at hk5 hzA hz1 ⊢
  have HK4 := Lib.hid hk4
  have HK5 := Lib.hid hk5
  have HK2 := Lib.hid hbk2
  have HBB := Lib.hid hbB
  clear hb1 hbA hk4 hk5 hbk2 hbB hg5
  have t1 : ∀ k, k < xs.length → gq (tab G xs.length) k = G k := fun k hk => gq_tab hk
  have TQ := Lib.hid t1
  clear t1
  go_wp2_with fail
  go_loopw [8] (fun v14 wr => ∃ k : Nat, k ≤ xs.length ∧ v14 = .int .i64 k ∧ Blk wr w.heap.size 29 [.int .i64 0, .int .i64 0] ∧ Blk wr g5 29 (fc [missQ xs ws G k]) ∧ Blk wr g2 29 (fc (tab G xs.length)) ∧ Below w.heap.size w wr)
    (fun v14 _ => xs.length - (intOf v14).toNat)
  case atStart => exact ⟨0, Nat.zero_le _, rfl, HK4.out, HK5.out, HK2.out, HBB.out⟩
  case round =>
    clear HK4 HK5 HK2 HBB
    obtain ⟨k, hk, rfl, hk4, hk5, hk2, hb⟩ := hrel
    have HK4 := Lib.hid hk4
    have HK5 := Lib.hid hk5
    have HK2 := Lib.hid hk2
    have hz := hb.size
    by_cases hlt : k < xs.length
    · have s1 := SM.out k hlt
      have s2 := SD.out k hlt
      have s3 := SO.out k hk
      have s4 := SO.out (k + 1) hlt
      have bx := HV.out.x k hlt
      have bw := HV.out.w k hlt
      have e1 : missQ xs ws G (k + 1) = missQ xs ws G k + (G k - (gi xs k : Rat)) * (G k - (gi xs k : Rat)) * (gi ws k : Rat) := rfl
      have c1 := hk2.f0 (k := k) (by rw [tab_length]; exact hlt)
      have c2 := hk2.f1 (k := k) (by rw [tab_length]; exact hlt)
      rw [TQ.out k hlt] at c1 c2
      have c3 := (H.out.below hb).cell k hlt
      have c4 := (H'.out.below hb).cell k (by rw [HNW.out]; exact hlt)
      have hlw : k < ws.length := by rw [HNW.out]; exact hlt
      have o1 := hk5.f0 (k := 0) (by simp)
      have o2 := hk5.f1 (k := 0) (by simp)
      simp only [Nat.zero_mul, Nat.zero_add, show gq [missQ xs ws G k] 0 = missQ xs ws G k from rfl] at o1 o2
      have hl4 := hk4.lt
      have hl5 := hk5.lt
      have hl2 := hk2.lt
      rw [← qd_one (gi xs k)] at s2 e1
      rw [← qd_one (gi ws k)] at e1
      obtain ⟨fr, hfr⟩ : ∃ fr, G k = fr := ⟨_, rfl⟩
      obtain ⟨x, hx⟩ : ∃ x, gi xs k = x := ⟨_, rfl⟩
      obtain ⟨wt, hwt⟩ : ∃ wt, gi ws k = wt := ⟨_, rfl⟩
      obtain ⟨ou, hou⟩ : ∃ ou, missQ xs ws G k = ou := ⟨_, rfl⟩
      rw [hfr] at s1 s2 e1 c1 c2
      rw [hx] at s2 e1 c3 bx
      rw [hwt] at e1 c4 bw
      rw [hou] at s3 e1 o1 o2
      obtain ⟨xq, hxq⟩ : ∃ xq, qd x 1 = xq := ⟨_, rfl⟩
      obtain ⟨wq, hwq⟩ : ∃ wq, qd wt 1 = wq := ⟨_, rfl⟩
      rw [hxq] at s2 e1
      rw [hwq] at e1
      have e3 : (fr - xq) * (fr - xq) * wq = wq * ((xq - fr) * (xq - fr)) := by grind
      rw [e3] at e1
      have s2 : Sm 2400 40 (xq - fr) := by
        have e4 : xq - fr = -(fr - xq) := by grind
        obtain ⟨k1, k2, k3⟩ := s2
        rw [e4]
        exact ⟨by rw [up_neg]; omega, by rw [up_neg]; omega, by rw [dn_neg]; exact k3⟩
      clear e3
      obtain ⟨d, hd⟩ : ∃ d, xq - fr = d := ⟨_, rfl⟩
      rw [hd] at s2 e1
      obtain ⟨dd, hdd⟩ : ∃ dd, d * d = dd := ⟨_, rfl⟩
      rw [hdd] at e1
      obtain ⟨t, ht⟩ : ∃ t, wq * dd = t := ⟨_, rfl⟩
      rw [ht] at e1
      obtain ⟨on, hon⟩ : ∃ on, missQ xs ws G (k + 1) = on := ⟨_, rfl⟩
      rw [hon] at e1 s4
      have sx : Sm 30 1 xq := ⟨by rw [← hxq, up_qd]; omega, by rw [← hxq, up_qd]; omega, by rw [← hxq, dn_qd]; omega⟩
      have sw : Sm 5 1 wq := ⟨by rw [← hwq, up_qd]; omega, by rw [← hwq, up_qd]; omega, by rw [← hwq, dn_qd]; omega⟩
      have sdd : Sm (2400 * 2400) (40 * 40) dd := by rw [← hdd]; exact sm_prod s2 s2
      have st : Sm (5 * (2400 * 2400)) (1 * (40 * 40)) t := by rw [← ht]; exact sm_prod sw sdd
      have m1 := sm_mul sx s1
      have m2 := sm_mul s3 st
      have m3 := sm_mul s2 s2
      have m4 := sm_mul sw sdd
      have p1 : (up d * up d).natAbs ≤ 2400 * 2400 := by rw [Int.natAbs_mul]; exact Nat.mul_le_mul (by have := s2.1; have := s2.2.1; omega) (by have := s2.1; have := s2.2.1; omega)
      have p2 : (up wq * up dd).natAbs ≤ 5 * (2400 * 2400) := by rw [Int.natAbs_mul]; exact Nat.mul_le_mul (by have := sw.1; have := sw.2.1; omega) (by have := sdd.1; have := sdd.2.1; omega)
      have XW := Lib.hid (fun w => sfrac_as x 1 xq hxq w (by omega) (by omega) (by omega) (by omega) (by omega))
      have WW := Lib.hid (fun w => sfrac_as wt 1 wq hwq w (by omega) (by omega) (by omega) (by omega) (by omega))
      have MW := Lib.hid (fun w => sminus_any xq fr d hd w (by omega) (by omega))
      have TW := Lib.hid (fun w => stimes_any d d dd hdd w (by omega) (by omega))
      have UW := Lib.hid (fun w => stimes_any wq dd t ht w (by omega) (by omega))
      have PW := Lib.hid (fun w => splus_any ou t on e1.symm w (by omega) (by omega))
      have HON := Lib.hid hon
      have HOU := Lib.hid hou
      have HX := Lib.hid hx
      have HWT := Lib.hid hwt
      clear s1 s2 s3 s4 bx bw e1 hfr hx hwt hou hxq hwq hd hdd ht hon sx sw sdd st m1 m2 m3 m4 p1 p2 hk4 hk5 hk2
      have HBW := Lib.hid hb
      go_upto_region 5 with fail
      obtain ⟨W5, hW5⟩ : ∃ W5 : World, W5 = wr := ⟨_, rfl⟩
      have hb5 : Below wr.heap.size wr W5 := by rw [hW5]; exact Below.refl _ _
      rw [← hW5] at c1 c2 ⊢
      have hz5 : wr.heap.size ≤ W5.heap.size := hb5.size
      have c3' := keepC hb5 c3
      have hbw5 : Below w.heap.size w W5 := hb.trans (hb5.mono hz)
      clear hW5
      go_cut [9] (fun s8 wx => ∃ g8, s8 = .pointer (some ⟨g8, 0, none⟩) ∧ W5.heap.size ≤ g8 ∧ Blk wx g8 29 (fc [d]) ∧ Below W5.heap.size W5 wx)
      case first =>
        go_region_held3 (fun w' => w'.cell? ⟨g2, k * 2, none⟩ = some (.int .i64 (up fr)) ∧ w'.cell? ⟨g2, k * 2 + 1, none⟩ = some (.int .i64 (dn fr)) ∧ w'.cell? ⟨b, o + k, none⟩ = some (.int .i64 x) ∧ Below w.heap.size w w')
          ((exact keepS3 (W := W5) (by (repeat' (first | (with_reducible exact Below.refl _ _) | (with_reducible assumption) | (with_reducible refine Below.drewN ?_ _) | (with_reducible refine Below.alloc ?_ ?_ _) | (with_reducible refine Below.drew ?_) | (with_reducible refine Below.setCell ?_ ?_ _) | (with_reducible refine Below.trans ?_ (Below.mono (by assumption) ?_)) | go_size | (with_reducible refine Nat.le_trans ?_ (Below.size (by assumption)))))) ⟨c1, c2, c3', hbw5⟩))
          ((first
            | (go_at_call 100; refine (XW.out _).mono ?_; rintro e w3 ⟨rfl, hb3⟩; obtain ⟨hc3, hf3⟩ := bcell hb3; have hz3 := hb3.size; (try simp only [World.size_alloc, World.size_drew] at hz3); (try have y3 : W5.heap.size < w3.heap.size := (by omega)))
            | (go_at_call 101; refine (MW.out _).mono ?_; rintro e w4 ⟨rfl, hb4⟩; obtain ⟨hc4, hf4⟩ := bcell hb4; have hz4 := hb4.size; (try simp only [World.size_alloc] at hz4); (try have y4 : W5.heap.size < w4.heap.size := (by omega)); (try have y5 : w3.heap.size < w4.heap.size := (by omega)))))
        all_goals go_wp2_with fail
        all_goals go_meet
        all_goals refine ⟨_, rfl, by omega, ?_, by (repeat' (first | (with_reducible exact Below.refl _ _) | (with_reducible assumption) | (with_reducible refine Below.drewN ?_ _) | (with_reducible refine Below.alloc ?_ ?_ _) | (with_reducible refine Below.drew ?_) | (with_reducible refine Below.setCell ?_ ?_ _) | (with_reducible refine Below.trans ?_ (Below.mono (by assumption) ?_)) | go_size | (with_reducible refine Nat.le_trans ?_ (Below.size (by assumption)))))⟩
        all_goals change Blk _ _ _ [.int .i64 (up d), .int .i64 (dn d)]
        all_goals (repeat' (first | ((with_reducible refine Blk.made' _ ?_ ?_) <;> first | rfl | (simp; done)) | (with_reducible refine Blk.two (x := .int .i64 0) (y := .int .i64 0) ?_ _ _) | (with_reducible refine Blk.drews ?_) | (with_reducible refine Blk.allocs ?_ _) | ((with_reducible refine Blk.others ?_ ?_); rotate_left; (focus (first | (simp; done) | (simp; omega)))) | (with_reducible refine Blk.below ?_ (by with_reducible assumption))))
      case rest =>
        obtain ⟨g8, rfl, hg8, hk8, hb8⟩ := hcut
        have hz8 := hb8.size
        have hk4 := (HK4.out.below hb5).below hb8
        have hk5 := (HK5.out.below hb5).below hb8
        have hk2 := (HK2.out.below hb5).below hb8
        have hbw : Below w.heap.size w wc := hbw5.trans (hb8.mono (by omega))
        have c4' := keepC hb8 (keepC hb5 c4)
        have o1' := keepC hb8 (keepC hb5 o1)
        have o2' := keepC hb8 (keepC hb5 o2)
        have p1 := hk8.f0 (k := 0) (by simp)
        have p2 := hk8.f1 (k := 0) (by simp)
        simp only [Nat.zero_mul, Nat.zero_add, show gq [d] 0 = d from rfl] at p1 p2
        have f1 := hk5.frozen 0
        have f2 := hk5.frozen 1
        have l5 := hk5.lt
        have l8 := hk8.lt
        have l4 := hk4.lt
        have l2 := hk2.lt
        have K4 := Lib.hid hk4
        have K5 := Lib.hid hk5
        have K2 := Lib.hid hk2
        have K8 := Lib.hid hk8
        clear hk4 hk5 hk2 hk8 c3 c4 o1 o2 c1 c2 c3'
        have hb5' : b' < w.heap.size := H'.out.blk
        have y8 : g8 ≠ g5 := by have := HK5.out.lt; omega
        have y9 : b' ≠ g5 := by omega
        go_upto_region 6 with fail
        obtain ⟨ι, W, hW0, hWm, hWb⟩ := good_worlds wc
        have hWn : Nonempty ι := hW0.elim fun i _ => ⟨i⟩
        have z1 : ∀ i, (W i).cell? ⟨g5, 0, none⟩ = some (.int .i64 (up ou)) := fun i => keepC (hWb i) o1'
        have z2 : ∀ i, (W i).cell? ⟨g5, 1, none⟩ = some (.int .i64 (dn ou)) := fun i => keepC (hWb i) o2'
        have z3 : ∀ i, (W i).cell? ⟨g8, 0, none⟩ = some (.int .i64 (up d)) := fun i => keepC (hWb i) p1
        have z4 : ∀ i, (W i).cell? ⟨g8, 1, none⟩ = some (.int .i64 (dn d)) := fun i => keepC (hWb i) p2
        have z5 : ∀ i, (W i).cell? ⟨b', o' + k, none⟩ = some (.int .i64 wt) := fun i => keepC (hWb i) c4'
        have z6 : ∀ i, (W i).frozen? ⟨g5, 0, none⟩ = false := fun i => keepF (hWb i) l5 f1
        have z7 : ∀ i, (W i).frozen? ⟨g5, 1, none⟩ = false := fun i => keepF (hWb i) l5 f2
        (refine region_quiet_tail (C := fun w' => ∃ i, w' = W i) 11 (by kernel_rfl) (by kernel_rfl) hW0 ?_; simp only [List.take_succ_cons, List.take_zero, List.drop_succ_cons, List.drop_zero]; (repeat (go_big_quiet_step (first
          | (go_at_call 100; exact (WW.out _).mono fun e w'' h => ⟨h.1, hWm _ _ h.2⟩)
          | (go_at_call_of 103 d; exact (TW.out _).mono fun e w'' h => ⟨h.1, hWm _ _ h.2⟩)
          | (go_at_call_of 103 dd; exact (UW.out _).mono fun e w'' h => ⟨h.1, hWm _ _ h.2⟩)
          | (go_at_call 102; exact (PW.out _).mono fun e w'' h => ⟨h.1, hWm _ _ h.2⟩)))); refine wpQuiet_nil ?_; rintro _ ⟨iw, rfl⟩)
        go_wp2
        go_roundw
        case rel =>
          have hy : w.heap.size ≠ g5 := by omega
          have hy2 : g2 ≠ g5 := by omega
          refine ⟨k + 1, hlt, by go_num, ((K4.out.below (hWb iw)).others (Ne.symm hy)).others (Ne.symm hy), ?_, ((K2.out.below (hWb iw)).others (Ne.symm hy2)).others (Ne.symm hy2), ((hbw.trans ((hWb iw).mono (by omega))).setCell hzA _).setCell hzA _⟩
          rw [HON.out]
          exact (K5.out.below (hWb iw)).two (x := .int .i64 (up (missQ xs ws G k))) (y := .int .i64 (dn (missQ xs ws G k))) _ _
        case measure => simp [intOf]; omega
    · have hkl : k = xs.length := by omega
      have o1 := hk5.f0 (k := 0) (by simp)
      have o2 := hk5.f1 (k := 0) (by simp)
      simp only [Nat.zero_mul, Nat.zero_add, show gq [missQ xs ws G k] 0 = missQ xs ws G k from rfl] at o1 o2
      have hM : missQ xs ws G k = missQ xs ws G xs.length := by rw [hkl]
      rw [hM] at o1 o2
      rw [HME.out] at o1 o2
      have f1 := hk4.frozen 0
      have f2 := hk4.frozen 1
      have x1 := hk4.cell (j := 0) rfl
      have x2 := hk4.cell (j := 1) rfl
      have l4 := hk4.lt
      have y1 := (hk4.set 0 (.int .i64 (up M))).cell (j := 0) rfl
      have y2 := ((hk4.set 0 (.int .i64 (up M))).set 1 (.int .i64 (dn M))).cell (j := 1) rfl
      clear hk4 hk5 hk2 HK4 HK5 HK2 hM SM SD SO HV HFF TQ
      go_wp2_with fail
      refine bodyPost_ret (v := .agg #[.int .i64 (up M), .int .i64 (dn M)]) ?_ rfl ⟨rfl, ?_⟩
      · simp [results, Try.results67, go_sem, y1, y2]
      · exact (hb.setCell (Nat.le_refl _) _).setCell (Nat.le_refl _) _

end Go.Proofs.Ytcmbfkdhfdiamaa
