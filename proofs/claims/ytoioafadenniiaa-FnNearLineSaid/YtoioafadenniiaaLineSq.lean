/- The line of the least squares: spec.SquareLine, and the laws' own distance from a line. -/
import Derived.Test.YtoioafadenniiaaLineSp
import Derived.Test.YtoioafadenniiaaLFrac
namespace Go.Proofs.Ytoioafadenniiaa
open Go.RowKit

set_option maxHeartbeats 4000000 in
theorem ssquareLine_no (b o c b' o' c' : Nat) (xs ys : List Int) (w : World) (h : RowI w b o xs) (h' : RowI w b' o' ys) (hm : xs.length ≤ 1099511627776) (hm' : ys.length ≤ 1099511627776) (hc : clB xs ys = false) :
    Calls Try.prog 27 #[.slice (some ⟨b, o, none⟩) xs.length c, .slice (some ⟨b', o', none⟩) ys.length c'] w
      fun e w' => e = .returned (.tuple #[.agg #[.int .i64 0, .int .i64 0], .agg #[.int .i64 0, .int .i64 0], .bool false]) ∧ Below w.heap.size w w' := by
  have CV := Lib.hid (fun w h h' => hc ▸ svalidCloud_any b o c b' o' c' xs ys w h h' hm hm')
  have H := Lib.hid h
  have H' := Lib.hid h'
  clear h h' hc
  go_enter Try.func27, Try.ntmps27
  go_upto_region 1 with fail
  refine wp_abstract (fun W => Blk W w.heap.size 31 [.int .i64 0, .int .i64 0] ∧ Blk W (w.heap.size + 1) 31 [.int .i64 0, .int .i64 0] ∧ Below w.heap.size w W)
    ⟨(Blk.made' _ rfl rfl).allocs _, Blk.made' _ (by simp) rfl, by (repeat' (first | (with_reducible exact Below.refl _ _) | (with_reducible assumption) | (with_reducible refine Below.drewN ?_ _) | (with_reducible refine Below.alloc ?_ ?_ _) | (with_reducible refine Below.drew ?_) | (with_reducible refine Below.setCell ?_ ?_ _) | (with_reducible refine Below.trans ?_ (Below.mono (by assumption) ?_)) | go_size | (with_reducible refine Nat.le_trans ?_ (Below.size (by assumption)))))⟩ ?_
  rintro W0 ⟨hk4, hk5, hb⟩
  have K4 := Lib.hid hk4
  have K5 := Lib.hid hk5
  have hz := hb.size
  clear hk4 hk5
  go_wp2_with (go_at_call 46; refine (CV.out _ (H.out.below hb) (H'.out.below hb)).mono ?_; rintro e w1 ⟨rfl, hb1⟩; have k4 := K4.out.below hb1; have k5 := K5.out.below hb1; have c40 := k4.cell (j := 0) rfl; have c41 := k4.cell (j := 1) rfl; have f40 := k4.frozen 0; have f41 := k4.frozen 1; have c50 := k5.cell (j := 0) rfl; have c51 := k5.cell (j := 1) rfl; have f50 := k5.frozen 0; have f51 := k5.frozen 1)
  refine bodyPost_ret (v := .tuple #[.agg #[.int .i64 0, .int .i64 0], .agg #[.int .i64 0, .int .i64 0], .bool false]) ?_ rfl ⟨rfl, ?_⟩
  · simp [results, Try.results27, go_sem, c40, c41, c50, c51]
  · have b1 := hb.trans (hb1.mono hz)
    exact (((b1.setCell (Nat.le_refl _) _).setCell (Nat.le_refl _) _).setCell (by simp) _).setCell (by simp) _

set_option maxHeartbeats 8000000 in
theorem ssquareLine_yes (b o c b' o' c' : Nat) (xs ys : List Int) (w : World) (A B : Rat) (h : RowI w b o xs) (h' : RowI w b' o' ys) (hc : Cl xs ys) (hcb : clB xs ys = true) (hA : lnA xs ys = A) (hB : lnB xs ys = B) :
    Calls Try.prog 27 #[.slice (some ⟨b, o, none⟩) xs.length c, .slice (some ⟨b', o', none⟩) ys.length c'] w
      fun e w' => e = .returned (.tuple #[.agg #[.int .i64 (up A), .int .i64 (dn A)], .agg #[.int .i64 (up B), .int .i64 (dn B)], .bool true]) ∧ Below w.heap.size w w' := by
  have hl : ys.length = xs.length := hc.pl.ne
  have n7 := hc.pl.nm
  have CV := Lib.hid (fun w h h' => hcb ▸ svalidCloud_any b o c b' o' c' xs ys w h h' (by omega) (by omega))
  have CS := Lib.hid (fun w (h : RowI w b o xs) (h' : RowI w b' o' ys) => square_any b o c b' o' c' xs ys w A B h h' hc hA hB)
  have H := Lib.hid h
  have H' := Lib.hid h'
  clear h h' hc hcb hA hB hl n7
  go_enter Try.func27, Try.ntmps27
  go_upto_region 1 with fail
  refine wp_abstract (fun W => Blk W w.heap.size 31 [.int .i64 0, .int .i64 0] ∧ Blk W (w.heap.size + 1) 31 [.int .i64 0, .int .i64 0] ∧ Below w.heap.size w W)
    ⟨(Blk.made' _ rfl rfl).allocs _, Blk.made' _ (by simp) rfl, by (repeat' (first | (with_reducible exact Below.refl _ _) | (with_reducible assumption) | (with_reducible refine Below.drewN ?_ _) | (with_reducible refine Below.alloc ?_ ?_ _) | (with_reducible refine Below.drew ?_) | (with_reducible refine Below.setCell ?_ ?_ _) | (with_reducible refine Below.trans ?_ (Below.mono (by assumption) ?_)) | go_size | (with_reducible refine Nat.le_trans ?_ (Below.size (by assumption)))))⟩ ?_
  rintro W0 ⟨hk4, hk5, hb⟩
  have K4 := Lib.hid hk4
  have K5 := Lib.hid hk5
  have B0 := Lib.hid hb
  have hz := hb.size
  have lk5 := hk5.lt
  clear hk4 hk5 hb
  go_upto_region 4 with (first
    | (go_at_call 46; refine (CV.out _ (H.out.below B0.out) (H'.out.below B0.out)).mono ?_; rintro e w1 ⟨rfl, hb1⟩; have b1 := B0.out.trans (hb1.mono hz); have hz1 := hb1.size)
    | (go_at_call 72; refine (CS.out _ (H.out.below b1) (H'.out.below b1)).mono ?_; rintro e w2 ⟨rfl, hb2⟩; have hz2 := hb2.size))
  obtain ⟨g7, hg7⟩ : ∃ g, w2.heap.size = g := ⟨_, rfl⟩
  rw [hg7]
  have l125 : w.heap.size + 1 < g7 := by omega
  refine wp_abstract (fun W => Blk W g7 31 [.int .i64 (up A), .int .i64 (dn A)] ∧ Blk W (g7 + 1) 31 [.int .i64 (up B), .int .i64 (dn B)] ∧ Below W0.heap.size W0 W) ⟨?_, ?_, by (repeat' (first | (with_reducible exact Below.refl _ _) | (with_reducible assumption) | (with_reducible refine Below.drewN ?_ _) | (with_reducible refine Below.alloc ?_ ?_ _) | (with_reducible refine Below.drew ?_) | (with_reducible refine Below.setCell ?_ ?_ _) | (with_reducible refine Below.trans ?_ (Below.mono (by assumption) ?_)) | go_size | (with_reducible refine Nat.le_trans ?_ (Below.size (by assumption)))))⟩ ?_
  · subst hg7
    exact (Blk.made' _ rfl rfl).allocs _
  · subst hg7
    exact Blk.made' _ (by simp) rfl
  rintro w9 ⟨k12, k13, bw9⟩
  have n1 : g7 + 1 ≠ w.heap.size := by omega
  have n2 : g7 + 1 ≠ w.heap.size + 1 := by omega
  have n3 : g7 ≠ w.heap.size := by omega
  have n4 : g7 ≠ w.heap.size + 1 := by omega
  have k4 := K4.out.below bw9
  have k5 := K5.out.below bw9
  have x1 := k12.cell (j := 0) rfl
  have x2 := k12.cell (j := 1) rfl
  have x3 := k13.cell (j := 0) rfl
  have x4 := k13.cell (j := 1) rfl
  have f40 := k4.frozen 0
  have f41 := k4.frozen 1
  have f50 := k5.frozen 0
  have f51 := k5.frozen 1
  have c40 := k4.cell (j := 0) rfl
  have c41 := k4.cell (j := 1) rfl
  have c50 := k5.cell (j := 0) rfl
  have c51 := k5.cell (j := 1) rfl
  have BB := Lib.hid (B0.out.trans (bw9.mono hz))
  clear k4 k5 k12 k13 bw9 hg7 hz1 hz2 hb1 hb2 b1
  go_region
  all_goals go_wp2_with fail
  all_goals refine bodyPost_ret (v := .tuple #[.agg #[.int .i64 (up A), .int .i64 (dn A)], .agg #[.int .i64 (up B), .int .i64 (dn B)], .bool true]) ?_ rfl ⟨rfl, ?_⟩
  all_goals first
    | (simp [results, Try.results27, go_sem, c40, c41, c50, c51]; done)
    | (have bb := BB.out; (repeat' (first | (with_reducible exact Below.refl _ _) | (with_reducible assumption) | (with_reducible refine Below.drewN ?_ _) | (with_reducible refine Below.alloc ?_ ?_ _) | (with_reducible refine Below.drew ?_) | (with_reducible refine Below.setCell ?_ ?_ _) | (with_reducible refine Below.trans ?_ (Below.mono (by assumption) ?_)) | go_size | (with_reducible refine Nat.le_trans ?_ (Below.size (by assumption))))))
  all_goals simp

set_option maxHeartbeats 8000000 in
/-- y - (a x + b) is r. -/
theorem overOf_any (x y : Int) (A B t s r : Rat) (w : World) (h1 : -12 ≤ x ∧ x ≤ 12) (h2 : -12 ≤ y ∧ y ≤ 12) (ht : A * qd x 1 = t) (hs : t + B = s) (hr : qd y 1 - s = r)
    (b1 : (up A * up (qd x 1)).natAbs ≤ 4611686018427387904 ∧ dn A * dn (qd x 1) ≤ 4611686018427387904) (b2 : dn t * dn B ≤ 4611686018427387904 ∧ (up t).natAbs * dn B + (up B).natAbs * dn t ≤ 4611686018427387904)
    (b3 : dn (qd y 1) * dn s ≤ 4611686018427387904 ∧ (up (qd y 1)).natAbs * dn s + (up s).natAbs * dn (qd y 1) ≤ 4611686018427387904) (b4 : -4611686018427387904 ≤ up s ∧ up s ≤ 4611686018427387904 ∧ dn s ≤ 4611686018427387904) :
    Calls Try.prog 29 #[.int .i64 x, .int .i64 y, .agg #[.int .i64 (up A), .int .i64 (dn A)], .agg #[.int .i64 (up B), .int .i64 (dn B)]] w fun e w' =>
      e = .returned (.agg #[.int .i64 (up r), .int .i64 (dn r)]) ∧ Below w.heap.size w w' := by
  obtain ⟨qx, hqx⟩ : ∃ q, qd x 1 = q := ⟨_, rfl⟩
  obtain ⟨qy, hqy⟩ : ∃ q, qd y 1 = q := ⟨_, rfl⟩
  obtain ⟨ns, hns⟩ : ∃ q, -s = q := ⟨_, rfl⟩
  rw [hqx] at ht b1
  rw [hqy] at hr b3
  have ds := dn_pos s
  have hnq : qd (-up s) (dn s) = ns := by rw [← hns, ← up_neg, ← dn_neg, qd_up_dn]
  have un : (up ns).natAbs = (up s).natAbs := by rw [← hns, up_neg]; omega
  have dnn : dn ns = dn s := by rw [← hns, dn_neg]
  have hr' : qy + ns = r := by rw [← hr, ← hns, Rat.sub_eq_add_neg]
  have FX := Lib.hid (fun w => lfrac_as x 1 qx hqx w (by omega) (by omega) (by omega) (by omega) (by omega))
  have FY := Lib.hid (fun w => lfrac_as y 1 qy hqy w (by omega) (by omega) (by omega) (by omega) (by omega))
  have TW := Lib.hid (fun w => ltimes_any A qx t ht w b1.2 b1.1)
  have PW := Lib.hid (fun w => lplus_any t B s hs w b2.1 b2.2)
  have RW := Lib.hid (fun w => lplus_any qy ns r hr' w (by rw [dnn]; exact b3.1) (by rw [dnn, un]; exact b3.2))
  have FS := Lib.hid (fun w => lfrac_as (-up s) (dn s) ns hnq w (by omega) (by omega) (by omega) (by omega) (by omega))
  obtain ⟨bs1, bs2, bs3⟩ := b4
  obtain ⟨us, hus⟩ : ∃ u, up s = u := ⟨_, rfl⟩
  obtain ⟨d, hd⟩ : ∃ u, dn s = u := ⟨_, rfl⟩
  obtain ⟨uA, huA⟩ : ∃ u, up A = u := ⟨_, rfl⟩
  obtain ⟨dA, hdA⟩ : ∃ u, dn A = u := ⟨_, rfl⟩
  obtain ⟨uB, huB⟩ : ∃ u, up B = u := ⟨_, rfl⟩
  obtain ⟨dB, hdB⟩ : ∃ u, dn B = u := ⟨_, rfl⟩
  rw [huA, hdA] at TW ⊢
  rw [huB, hdB] at PW ⊢
  rw [hus, hd] at PW FS
  rw [hus] at bs1 bs2
  rw [hd] at bs3 ds
  clear ht hs hr b1 b2 b3 hqx hqy hns hnq un dnn hr' hus hd huA hdA huB hdB
  go_enter Try.func29, Try.ntmps29
  go_upto_region 1 with fail
  refine wp_abstract (fun W => W.cell? ⟨w.heap.size, 0, none⟩ = some (.int .i64 uA) ∧ W.cell? ⟨w.heap.size, 1, none⟩ = some (.int .i64 dA) ∧ W.cell? ⟨w.heap.size + 1, 0, none⟩ = some (.int .i64 uB) ∧ W.cell? ⟨w.heap.size + 1, 1, none⟩ = some (.int .i64 dB) ∧
    Blk W (w.heap.size + 1 + 1) 31 [.int .i64 0, .int .i64 0] ∧ Below w.heap.size w W) ⟨by simp [go_sem], by simp [go_sem], by simp [go_sem], by simp [go_sem], Blk.made' _ (by simp) rfl, by (repeat' (first | (with_reducible exact Below.refl _ _) | (with_reducible assumption) | (with_reducible refine Below.drewN ?_ _) | (with_reducible refine Below.alloc ?_ ?_ _) | (with_reducible refine Below.drew ?_) | (with_reducible refine Below.setCell ?_ ?_ _) | (with_reducible refine Below.trans ?_ (Below.mono (by assumption) ?_)) | go_size | (with_reducible refine Nat.le_trans ?_ (Below.size (by assumption)))))⟩ ?_
  rintro W0 ⟨c1, c2, c3, c4, hbk, hb⟩
  have HBK := Lib.hid hbk
  have lbk := hbk.lt
  have B0 := Lib.hid hb
  have hz := hb.size
  clear hbk hb
  (refine region_box_tail 6 (by kernel_rfl) (by kernel_rfl) rfl allocF ?_; intro WB gB hWB hgB; obtain ⟨ι, W, hCW, hWn, hWm, hWb⟩ := cl_worlds WB; rw [hCW])
  have z1 : ∀ i, (W i).cell? ⟨w.heap.size, 0, none⟩ = some (.int .i64 uA) := fun i => keepC (hWb i) (keepC hWB c1)
  have z2 : ∀ i, (W i).cell? ⟨w.heap.size, 1, none⟩ = some (.int .i64 dA) := fun i => keepC (hWb i) (keepC hWB c2)
  have z3 : ∀ i, (W i).cell? ⟨w.heap.size + 1, 0, none⟩ = some (.int .i64 uB) := fun i => keepC (hWb i) (keepC hWB c3)
  have z4 : ∀ i, (W i).cell? ⟨w.heap.size + 1, 1, none⟩ = some (.int .i64 dB) := fun i => keepC (hWb i) (keepC hWB c4)
  (simp only [Act.put, List.setIfInBounds_toArray, List.set_cons_zero, List.set_cons_succ, List.take_succ_cons, List.take_zero]; (repeat (go_big_quiet_step (first
    | (go_at_call 28; exact (FX.out _).mono fun e w'' h => ⟨h.1, hWm _ _ h.2⟩)
    | (go_at_call 31; exact (TW.out _).mono fun e w'' h => ⟨h.1, hWm _ _ h.2⟩)
    | (go_at_call 30; exact (PW.out _).mono fun e w'' h => ⟨h.1, hWm _ _ h.2⟩)))); refine wpQuiet_nil ?_; rintro _ ⟨iw, rfl⟩ hkB)
  have b0 := hkB.cell (j := 0) rfl
  have b1 := hkB.cell (j := 1) rfl
  have b2 := hkB.frozen 0
  have b3 := hkB.frozen 1
  have lB := hkB.lt
  go_upto_region 2 with fail
  obtain ⟨w9, hw9⟩ : ∃ w9, w9 = ((W iw).setCell ⟨gB, 0, none⟩ (.int .i64 us)).setCell ⟨gB, 1, none⟩ (.int .i64 d) := ⟨_, rfl⟩
  rw [← hw9]
  have k9 : Blk w9 gB 31 [.int .i64 us, .int .i64 d] := by rw [hw9]; exact hkB.two (x := .int .i64 0) (y := .int .i64 0) _ _
  have hbW := hWB.trans ((hWb iw).mono hWB.size)
  have bw9 : Below W0.heap.size W0 w9 := by rw [hw9]; exact (hbW.setCell (by show W0.heap.size ≤ gB; exact hgB) _).setCell (by show W0.heap.size ≤ gB; exact hgB) _
  have x1 := k9.cell (j := 0) rfl
  have x2 := k9.cell (j := 1) rfl
  have HBK := Lib.hid (HBK.out.below bw9)
  have B9 := Lib.hid (B0.out.trans (bw9.mono hz))
  clear hw9 hkB b0 b1 b2 b3 lB k9 bw9 hbW hWB z1 z2 z3 z4 hWb hWm hCW hWn c1 c2 c3 c4
  clear iw W
  obtain ⟨ι', W, hW0, hWm, hWb⟩ := good_worlds w9
  have hWn : Nonempty ι' := hW0.elim fun i _ => ⟨i⟩
  have z1 : ∀ i, (W i).cell? ⟨gB, 0, none⟩ = some (.int .i64 us) := fun i => keepC (hWb i) x1
  have z2 : ∀ i, (W i).cell? ⟨gB, 1, none⟩ = some (.int .i64 d) := fun i => keepC (hWb i) x2
  have z5 : ∀ i, (W i).frozen? ⟨w.heap.size + 1 + 1, 0, none⟩ = false := fun i => (HBK.out.below (hWb i)).frozen 0
  have z6 : ∀ i, (W i).frozen? ⟨w.heap.size + 1 + 1, 1, none⟩ = false := fun i => (HBK.out.below (hWb i)).frozen 1
  have z7 : ∀ i, (W i).cell? ⟨w.heap.size + 1 + 1, 0, none⟩ = some (.int .i64 0) := fun i => (HBK.out.below (hWb i)).cell rfl
  have z8 : ∀ i, (W i).cell? ⟨w.heap.size + 1 + 1, 1, none⟩ = some (.int .i64 0) := fun i => (HBK.out.below (hWb i)).cell rfl
  have q1 : IntKind.i64.wrap (-us) = -us := IntWalk.i64_in _ (by omega)
  (refine region_quiet_tail (C := fun w' => ∃ i, w' = W i) 9 (by kernel_rfl) (by kernel_rfl) hW0 ?_; simp only [List.take_succ_cons, List.take_zero, List.drop_succ_cons, List.drop_zero]; (repeat (go_big_quiet_step (first
    | (go_at_call_of 28 y; exact (FY.out _).mono fun e w'' h => ⟨h.1, hWm _ _ h.2⟩)
    | (go_at_call_of 28 d; exact (FS.out _).mono fun e w'' h => ⟨h.1, hWm _ _ h.2⟩)
    | (go_at_call 30; exact (RW.out _).mono fun e w'' h => ⟨h.1, hWm _ _ h.2⟩)))); refine wpQuiet_nil ?_; rintro _ ⟨iw, rfl⟩)
  go_wp2
  have y1 := (((HBK.out.below (hWb iw)).set 0 (.int .i64 (up r))).set 1 (.int .i64 (dn r))).cell (j := 0) rfl
  have y2 := (((HBK.out.below (hWb iw)).set 0 (.int .i64 (up r))).set 1 (.int .i64 (dn r))).cell (j := 1) rfl
  refine bodyPost_ret (v := .agg #[.int .i64 (up r), .int .i64 (dn r)]) ?_ rfl ⟨rfl, ?_⟩
  · simp [results, Try.results29, go_sem, y1, y2]
  · exact ((B9.out.trans ((hWb iw).mono B9.out.size)).setCell (show w.heap.size ≤ w.heap.size + 1 + 1 by omega) _).setCell (show w.heap.size ≤ w.heap.size + 1 + 1 by omega) _

end Go.Proofs.Ytoioafadenniiaa
