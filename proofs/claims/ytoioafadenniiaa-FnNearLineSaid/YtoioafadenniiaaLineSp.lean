/- The line of the least squares: spec.SquareLine. -/
import Derived.Test.YtoioafadenniiaaLineI
namespace Go.Proofs.Ytoioafadenniiaa
open Go.RowKit

theorem line_spec (A : Rat) (sx sy n : Int) (P : Rat) (hP : A * qd sx n = P) : qd sy n - P = (qd sy 1 - A * qd sx 1) * qd 1 n := by
  have e1 : qd sy n = qd sy 1 * qd 1 n := by rw [qd_mul, Int.mul_one, Int.one_mul]
  have e2 : qd sx n = qd sx 1 * qd 1 n := by rw [qd_mul, Int.mul_one, Int.one_mul]
  rw [← hP, e1, e2]
  grind

set_option maxHeartbeats 8000000 in
set_option maxRecDepth 100000 in
theorem square_any (b o c b' o' c' : Nat) (xs ys : List Int) (w : World) (A B : Rat) (h : RowI w b o xs) (h' : RowI w b' o' ys) (hc : Cl xs ys) (hA : lnA xs ys = A) (hB : lnB xs ys = B) :
    Calls Try.prog 72 #[.slice (some ⟨b, o, none⟩) xs.length c, .slice (some ⟨b', o', none⟩) ys.length c'] w
      fun e w' => e = .returned (.tuple #[.agg #[.int .i64 (up A), .int .i64 (dn A)], .agg #[.int .i64 (up B), .int .i64 (dn B)]]) ∧ Below w.heap.size w w' := by
  have hl : ys.length = xs.length := hc.pl.ne
  have n0 := hc.pl.n0
  have n7 := hc.pl.nm
  have hbd := ln_bd hc
  obtain ⟨P1, hP1⟩ : ∃ P, A * qd (suN xs xs.length) 1 = P := ⟨_, rfl⟩
  obtain ⟨Q1, hQ1⟩ : ∃ Q, qd (suN ys xs.length) 1 - P1 = Q := ⟨_, rfl⟩
  have hB' : Q1 * qd 1 xs.length = B := by rw [← hB, ← hQ1, ← hP1, ← hA]; rfl
  have sm := (ln_sm hc hA hP1 hQ1 hB').a
  have HX := Lib.hid hc.pl.x
  have HY := Lib.hid hc.pl.y
  obtain ⟨sx, hsx⟩ : ∃ z, suN xs xs.length = z := ⟨_, rfl⟩
  obtain ⟨sy, hsy⟩ : ∃ z, suN ys ys.length = z := ⟨_, rfl⟩
  have SX := Lib.hid (fun w (h : RowI w b o xs) => ssum_any b o c xs sx w h (by omega) HX.out hsx)
  have SY := Lib.hid (fun w (h : RowI w b' o' ys) => ssum_any b' o' c' ys sy w h (by omega) (fun k hk => HY.out k (by omega)) hsy)
  have H := Lib.hid h
  have H' := Lib.hid h'
  obtain ⟨n, hn⟩ : ∃ n, xs.length = n := ⟨_, rfl⟩
  have hn' : ys.length = n := by omega
  have hsy' : suN ys xs.length = sy := by rw [← hl]; exact hsy
  have hA2 : qd ((n : Int) * xyN xs ys n - sx * sy) ((n : Int) * sqN xs n - sx * sx) = A := by rw [← hA, ← hsx, ← hsy, hn', ← hn]; rfl
  obtain ⟨d1, d2, p1, p2, x1, x2, y1, y2, q1, q2, r1, r2⟩ := hbd
  rw [hsx] at hP1 x1 x2
  rw [hsy'] at hQ1 y1 y2
  unfold lnD at d1 d2
  unfold lnN at p1 p2
  rw [hsx, hn] at d1 d2
  rw [hsx, hsy', hn] at p1 p2
  rw [hn] at q1 q2 r1 r2 n0 n7 hB'
  have XB := Lib.hid (fun k (hk : k ≤ n) => sqN_bd (xs := xs) k fun j hj => HX.out j (by omega))
  have YB := Lib.hid (fun k (hk : k ≤ n) => xyN_bd (xs := xs) (ys := ys) k (fun j hj => HX.out j (by omega)) fun j hj => HY.out j (by omega))
  have HX := Lib.hid (fun k (hk : k < n) => HX.out k (by omega))
  have HY := Lib.hid (fun k (hk : k < n) => HY.out k (by omega))
  have CX := Lib.hid (fun k (hk : k < n) w (h : RowI w b o xs) => h.cell k (by omega))
  have CY := Lib.hid (fun k (hk : k < n) w (h : RowI w b' o' ys) => h.cell k (by omega))
  rw [hn] at SX ⊢
  rw [hn'] at SY ⊢
  obtain ⟨P, hP⟩ : ∃ P, A * qd sx n = P := ⟨_, rfl⟩
  have hQ := line_spec A sx sy n P hP
  rw [hP1, hQ1, hB'] at hQ
  obtain ⟨qy, hqy⟩ : ∃ q, qd sy n = q := ⟨_, rfl⟩
  obtain ⟨qx, hqx⟩ : ∃ q, qd sx n = q := ⟨_, rfl⟩
  rw [hqy] at hQ
  rw [hqx] at hP
  have sy' : Sm 84 7 qy := hqy ▸ sm_qd (by omega) (by omega) (by omega) (by omega)
  have sx' : Sm 84 7 qx := hqx ▸ sm_qd (by omega) (by omega) (by omega) (by omega)
  have FY := Lib.hid (fun w => sfrac_as sy n qy hqy w (by omega) (by omega) (by omega) (by omega) (by omega))
  have FX := Lib.hid (fun w => sfrac_as sx n qx hqx w (by omega) (by omega) (by omega) (by omega) (by omega))
  have m1 := mul_bd (x := (n : Int)) (y := xyN xs ys n) (A := 7) (B := 1008) (by omega) (by omega)
  have m2 := mul_bd (x := sx) (y := sy) (A := 84) (B := 84) (by omega) (by omega)
  have m3 := mul_bd (x := (n : Int)) (y := sqN xs n) (A := 7) (B := 1008) (by omega) (by omega)
  have m4 := mul_bd (x := sx) (y := sx) (A := 84) (B := 84) (by omega) (by omega)
  obtain ⟨u, hu⟩ : ∃ u, (n : Int) * xyN xs ys n - sx * sy = u := ⟨_, rfl⟩
  obtain ⟨v, hv⟩ : ∃ u, (n : Int) * sqN xs n - sx * sx = u := ⟨_, rfl⟩
  have FA := Lib.hid (fun w => sfrac_as ((n : Int) * xyN xs ys n - sx * sy) ((n : Int) * sqN xs n - sx * sx) A hA2 w (by omega) (by omega) (by omega) (by omega) (by omega))
  have t1 := sm_prod sm sx'
  have t2 := mul_bd (x := up A) (y := up qx) (A := 14112) (B := 84) ⟨sm.1, sm.2.1⟩ ⟨sx'.1, sx'.2.1⟩
  have t4 := sm_mul sm sx'
  rw [hP] at t1
  have t3 := sm_mul sy' t1
  have TW := Lib.hid (fun w => stimes_any A qx P hP w (by omega) (by omega))
  have MW := Lib.hid (fun w => sminus_any qy P B hQ w (by omega) (by omega))
  clear h h' hc hA hB hP hQ hB' hsx hsy hl hn hn' hA2 hqy hqx sy' sx' sm t1 t2 t3 t4 hP1 hQ1 hsy' hu hv
  go_enter Try.func72, Try.ntmps72
  go_upto_region 1 with fail
  refine wp_abstract (fun W => Blk W w.heap.size 31 [.int .i64 0, .int .i64 0] ∧ Blk W (w.heap.size + 1) 31 [.int .i64 0, .int .i64 0] ∧ Below w.heap.size w W)
    ⟨(Blk.made' _ rfl rfl).allocs _, Blk.made' _ (by simp) rfl, by (repeat' (first | (with_reducible exact Below.refl _ _) | (with_reducible assumption) | (with_reducible refine Below.drewN ?_ _) | (with_reducible refine Below.alloc ?_ ?_ _) | (with_reducible refine Below.drew ?_) | (with_reducible refine Below.setCell ?_ ?_ _) | (with_reducible refine Below.trans ?_ (Below.mono (by assumption) ?_)) | go_size | (with_reducible refine Nat.le_trans ?_ (Below.size (by assumption)))))⟩ ?_
  rintro W0 ⟨hk4, hk5, hb⟩
  have K4 := Lib.hid hk4
  have K5 := Lib.hid hk5
  have B0 := Lib.hid hb
  have hz := hb.size
  have lk5 := hk5.lt
  have H := Lib.hid (H.out.below hb)
  have H' := Lib.hid (H'.out.below hb)
  clear hk4 hk5 hb
  go_wp2_with fail
  go_loopw [7, 8, 9] (fun v7 v8 v9 wr => ∃ k : Nat, k ≤ n ∧ v9 = .int .i64 k ∧ v8 = .int .i64 (sqN xs k) ∧ v7 = .int .i64 (xyN xs ys k) ∧ Below W0.heap.size W0 wr) (fun _ _ v9 _ => n - (intOf v9).toNat)
  case atStart => exact ⟨0, Nat.zero_le _, rfl, rfl, rfl, Below.refl _ _⟩
  case round =>
    obtain ⟨k, hk, rfl, rfl, rfl, hbr⟩ := hrel
    have HH := Lib.hid (H.out.below hbr)
    have HH' := Lib.hid (H'.out.below hbr)
    by_cases hlt : k < n
    · have c1 := CX.out k hlt _ HH.out
      have c2 := CY.out k hlt _ HH'.out
      have b1 := XB.out k hk
      have b2 := YB.out k hk
      have b3 := HX.out k hlt
      have b4 := HY.out k hlt
      have b5 := mul_bd b3 b3
      have b6 := mul_bd b3 b4
      have E1 := Lib.hid (show sqN xs k + gi xs k * gi xs k = sqN xs (k + 1) from rfl)
      have E2 := Lib.hid (show xyN xs ys k + gi xs k * gi ys k = xyN xs ys (k + 1) from rfl)
      go_wp2_with fail
      go_quiet (fail)
      go_wp2_with fail
      go_quiet (fail)
      go_wp2_with fail
      go_roundw
      case rel => exact ⟨k + 1, by omega, by go_num, by rw [← E1.out], by rw [← E2.out], by (repeat' (first | (with_reducible exact Below.refl _ _) | (with_reducible assumption) | (with_reducible refine Below.drewN ?_ _) | (with_reducible refine Below.alloc ?_ ?_ _) | (with_reducible refine Below.drew ?_) | (with_reducible refine Below.setCell ?_ ?_ _) | (with_reducible refine Below.trans ?_ (Below.mono (by assumption) ?_)) | go_size | (with_reducible refine Nat.le_trans ?_ (Below.size (by assumption)))))⟩
      case measure => simp [intOf]; omega
    · obtain rfl : k = n := by omega
      have K4 := Lib.hid (K4.out.below hbr)
      have K5 := Lib.hid (K5.out.below hbr)
      have B1 := Lib.hid (B0.out.trans (hbr.mono hz))
      have hzr := hbr.size
      generalize xyN xs ys k = xy at *
      generalize sqN xs k = xx at *
      clear hlt XB YB CX CY HX HY hbr B0 H H'
      go_upto_region 10 with (first
        | (go_at_call_of 88 b'; refine (SY.out _ (HH'.out.below (by (repeat' (first | (with_reducible exact Below.refl _ _) | (with_reducible assumption) | (with_reducible refine Below.drewN ?_ _) | (with_reducible refine Below.alloc ?_ ?_ _) | (with_reducible refine Below.drew ?_) | (with_reducible refine Below.setCell ?_ ?_ _) | (with_reducible refine Below.trans ?_ (Below.mono (by assumption) ?_)) | go_size | (with_reducible refine Nat.le_trans ?_ (Below.size (by assumption)))))))).mono ?_; rintro e w2 ⟨rfl, hb2⟩)
        | (go_at_call_of 88 b; refine (SX.out _ (HH.out.below (by (repeat' (first | (with_reducible exact Below.refl _ _) | (with_reducible assumption) | (with_reducible refine Below.drewN ?_ _) | (with_reducible refine Below.alloc ?_ ?_ _) | (with_reducible refine Below.drew ?_) | (with_reducible refine Below.setCell ?_ ?_ _) | (with_reducible refine Below.trans ?_ (Below.mono (by assumption) ?_)) | go_size | (with_reducible refine Nat.le_trans ?_ (Below.size (by assumption)))))))).mono ?_; rintro e w2 ⟨rfl, hb2⟩)
        | (go_at_call 47; refine (FA.out _).mono ?_; rintro e w3 ⟨rfl, hb3⟩))
      obtain ⟨g12, hg12⟩ : ∃ g, w3.heap.size = g := ⟨_, rfl⟩
      rw [hg12]
      refine wp_abstract (fun W => Blk W g12 31 [.int .i64 (up A), .int .i64 (dn A)] ∧ wr.heap.size ≤ g12 ∧ Below wr.heap.size wr W) ⟨Blk.made' _ hg12.symm rfl, by rw [← hg12]; (repeat' (first | (with_reducible exact Below.refl _ _) | (with_reducible assumption) | (with_reducible refine Below.drewN ?_ _) | (with_reducible refine Below.alloc ?_ ?_ _) | (with_reducible refine Below.drew ?_) | (with_reducible refine Below.setCell ?_ ?_ _) | (with_reducible refine Below.trans ?_ (Below.mono (by assumption) ?_)) | go_size | (with_reducible refine Nat.le_trans ?_ (Below.size (by assumption))))), by (repeat' (first | (with_reducible exact Below.refl _ _) | (with_reducible assumption) | (with_reducible refine Below.drewN ?_ _) | (with_reducible refine Below.alloc ?_ ?_ _) | (with_reducible refine Below.drew ?_) | (with_reducible refine Below.setCell ?_ ?_ _) | (with_reducible refine Below.trans ?_ (Below.mono (by assumption) ?_)) | go_size | (with_reducible refine Nat.le_trans ?_ (Below.size (by assumption)))))⟩ ?_
      rintro W5 ⟨hk12, hz12, hb5⟩
      have d1 := hk12.cell (j := 0) rfl
      have d2 := hk12.cell (j := 1) rfl
      have HH := Lib.hid (HH.out.below hb5)
      have HH' := Lib.hid (HH'.out.below hb5)
      have K4 := Lib.hid (K4.out.below hb5)
      have K5 := Lib.hid (K5.out.below hb5)
      have B5 := Lib.hid (B1.out.trans (hb5.mono (by omega)))
      clear hg12 hk12 hb5
      obtain ⟨ι, W, hW0, hWm, hWb⟩ := good_worlds W5
      have hWn : Nonempty ι := hW0.elim fun i _ => ⟨i⟩
      have z1 : ∀ i, (W i).cell? ⟨g12, 0, none⟩ = some (.int .i64 (up A)) := fun i => keepC (hWb i) d1
      have z2 : ∀ i, (W i).cell? ⟨g12, 1, none⟩ = some (.int .i64 (dn A)) := fun i => keepC (hWb i) d2
      have HH := Lib.hid (fun i => HH.out.below (hWb i))
      have HH' := Lib.hid (fun i => HH'.out.below (hWb i))
      have K4 := Lib.hid (fun i => K4.out.below (hWb i))
      have K5 := Lib.hid (fun i => K5.out.below (hWb i))
      have z3 : ∀ i, (W i).cell? ⟨w.heap.size, 0, none⟩ = some (.int .i64 0) := fun i => (K4.out i).cell (j := 0) rfl
      have z4 : ∀ i, (W i).cell? ⟨w.heap.size, 1, none⟩ = some (.int .i64 0) := fun i => (K4.out i).cell (j := 1) rfl
      have z5 : ∀ i, (W i).cell? ⟨w.heap.size + 1, 0, none⟩ = some (.int .i64 0) := fun i => (K5.out i).cell (j := 0) rfl
      have z6 : ∀ i, (W i).cell? ⟨w.heap.size + 1, 1, none⟩ = some (.int .i64 0) := fun i => (K5.out i).cell (j := 1) rfl
      have f3 : ∀ i, (W i).frozen? ⟨w.heap.size, 0, none⟩ = false := fun i => (K4.out i).frozen 0
      have f4 : ∀ i, (W i).frozen? ⟨w.heap.size, 1, none⟩ = false := fun i => (K4.out i).frozen 1
      have f5 : ∀ i, (W i).frozen? ⟨w.heap.size + 1, 0, none⟩ = false := fun i => (K5.out i).frozen 0
      have f6 : ∀ i, (W i).frozen? ⟨w.heap.size + 1, 1, none⟩ = false := fun i => (K5.out i).frozen 1
      (refine region_quiet_tail (C := fun w' => ∃ i, w' = W i) 12 (by kernel_rfl) (by kernel_rfl) hW0 ?_; simp only [List.take_succ_cons, List.take_zero, List.drop_succ_cons, List.drop_zero]; (repeat (go_big_quiet_step (first
        | (go_at_call_of 88 b'; exact (SY.out _ (HH'.out _)).mono fun e w'' h => ⟨h.1, hWm _ _ h.2⟩)
        | (go_at_call_of 88 b; exact (SX.out _ (HH.out _)).mono fun e w'' h => ⟨h.1, hWm _ _ h.2⟩)
        | (go_at_call_of 47 sy; exact (FY.out _).mono fun e w'' h => ⟨h.1, hWm _ _ h.2⟩)
        | (go_at_call_of 47 sx; exact (FX.out _).mono fun e w'' h => ⟨h.1, hWm _ _ h.2⟩)
        | (go_at_call 67; exact (TW.out _).mono fun e w'' h => ⟨h.1, hWm _ _ h.2⟩)
        | (go_at_call 77; exact (MW.out _).mono fun e w'' h => ⟨h.1, hWm _ _ h.2⟩)))); refine wpQuiet_nil ?_; rintro _ ⟨iw, rfl⟩)
      go_wp2_with fail
      have BB := Lib.hid (B5.out.trans ((hWb iw).mono B5.out.size))
      have c40 := z3 iw
      have c41 := z4 iw
      have c50 := z5 iw
      have c51 := z6 iw
      refine bodyPost_ret (v := .tuple #[.agg #[.int .i64 (up A), .int .i64 (dn A)], .agg #[.int .i64 (up B), .int .i64 (dn B)]]) ?_ rfl ⟨rfl, ?_⟩
      · simp [results, Try.results72, go_sem, c40, c41, c50, c51]
      · have bb := BB.out
        (repeat' (first | (with_reducible exact Below.refl _ _) | (with_reducible assumption) | (with_reducible refine Below.drewN ?_ _) | (with_reducible refine Below.alloc ?_ ?_ _) | (with_reducible refine Below.drew ?_) | (with_reducible refine Below.setCell ?_ ?_ _) | (with_reducible refine Below.trans ?_ (Below.mono (by assumption) ?_)) | go_size | (with_reducible refine Nat.le_trans ?_ (Below.size (by assumption)))))
        all_goals simp

end Go.Proofs.Ytoioafadenniiaa
