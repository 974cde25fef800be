/- The line of the least squares: impl.SquareLine. -/
import Derived.Test.YtoioafadenniiaaLineS
import Derived.Test.YtoioafadenniiaaBoxF
namespace Go.Proofs.Ytoioafadenniiaa
open Go.RowKit

theorem whole_a (n : Int) (q : Rat) (hq : qd n 1 = q) (w : World) :
    Calls Try.prog 51 #[.int .i64 n] w fun e w' => e = .returned (.agg #[.int .i64 (up q), .int .i64 (dn q)]) ∧ Below w.heap.size w w' := hq ▸ whole_any n w

/-- What the line's height is reckoned by. -/
structure LnS (xs ys : List Int) (A P Q B : Rat) : Prop where
  a : Sm 14112 7056 A
  p : Sm 1185408 7056 P
  q : Sm 1778112 7056 Q
  b : Sm 1778112 49392 B
theorem ln_sm {xs ys : List Int} (h : Cl xs ys) {A P Q B : Rat} (hA : lnA xs ys = A) (hP : A * qd (suN xs xs.length) 1 = P) (hQ : qd (suN ys xs.length) 1 - P = Q) (hB : Q * qd 1 xs.length = B) : LnS xs ys A P Q B := by
  have hb := ln_bd h
  obtain ⟨d1, d2, n1, n2, x1, x2, y1, y2, -, -, -, -⟩ := hb
  have n0 := h.pl.n0
  have n7 := h.pl.nm
  unfold lnA at hA
  generalize lnN xs ys = N at *
  generalize lnD xs = D at *
  generalize suN xs xs.length = X at *
  generalize suN ys xs.length = Y at *
  have m1 := mul_bd (x := N) (y := X) (A := 14112) (B := 84) (by omega) (by omega)
  have m2 := mul_bd (x := Y) (y := D) (A := 84) (B := 7056) (by omega) (by omega)
  have eP : P = qd (N * X) D := by rw [← hP, ← hA, qd_mul, Int.mul_one]
  have eQ : Q = qd (Y * D - N * X) D := by
    rw [← hQ, eP, Rat.sub_eq_add_neg]
    rw [show -qd (N * X) D = qd (-(N * X)) D from by unfold qd; rw [Rat.neg_divInt]]
    rw [qd_add _ _ _ _ (by omega) (by omega), Int.mul_one, Int.one_mul]
    rfl
  have eB : B = qd (Y * D - N * X) (D * xs.length) := by rw [← hB, eQ, qd_mul, Int.mul_one]
  have m3 : 0 < D * (xs.length : Int) := Int.mul_pos (by omega) (by omega)
  have m4 : D * (xs.length : Int) ≤ 7056 * 7 := Int.mul_le_mul (by omega) (by omega) (by omega) (by omega)
  refine ⟨hA ▸ sm_qd (by omega) (by omega) (by omega) (by omega), eP ▸ sm_qd (by omega) (by omega) (by omega) (by omega), eQ ▸ sm_qd (by omega) (by omega) (by omega) (by omega), eB ▸ sm_qd (by omega) (by omega) (by omega) (by omega)⟩

set_option maxHeartbeats 4000000 in
theorem squareLine_no (b o c b' o' c' : Nat) (xs ys : List Int) (w : World) (h : RowI w b o xs) (h' : RowI w b' o' ys) (hm : xs.length ≤ 1099511627776) (hm' : ys.length ≤ 1099511627776) (hc : clB xs ys = false) :
    Calls Try.prog 26 #[.slice (some ⟨b, o, none⟩) xs.length c, .slice (some ⟨b', o', none⟩) ys.length c'] w
      fun e w' => e = .returned (.tuple #[.agg #[.int .i64 0, .int .i64 0], .agg #[.int .i64 0, .int .i64 0], .bool false]) ∧ Below w.heap.size w w' := by
  have CV := Lib.hid (fun w h h' => hc ▸ validCloud_any b o c b' o' c' xs ys w h h' hm hm')
  have H := Lib.hid h
  have H' := Lib.hid h'
  clear h h' hc
  go_enter Try.func26, Try.ntmps26
  go_upto_region 1 with fail
  refine wp_abstract (fun W => Blk W w.heap.size 31 [.int .i64 0, .int .i64 0] ∧ Blk W (w.heap.size + 1) 31 [.int .i64 0, .int .i64 0] ∧ Below w.heap.size w W)
    ⟨(Blk.made' _ rfl rfl).allocs _, Blk.made' _ (by simp) rfl, by (repeat' (first | (with_reducible exact Below.refl _ _) | (with_reducible assumption) | (with_reducible refine Below.drewN ?_ _) | (with_reducible refine Below.alloc ?_ ?_ _) | (with_reducible refine Below.drew ?_) | (with_reducible refine Below.setCell ?_ ?_ _) | (with_reducible refine Below.trans ?_ (Below.mono (by assumption) ?_)) | go_size | (with_reducible refine Nat.le_trans ?_ (Below.size (by assumption)))))⟩ ?_
  rintro W0 ⟨hk4, hk5, hb⟩
  have K4 := Lib.hid hk4
  have K5 := Lib.hid hk5
  have hz := hb.size
  clear hk4 hk5
  go_wp2_with (go_at_call 50; refine (CV.out _ (H.out.below hb) (H'.out.below hb)).mono ?_; rintro e w1 ⟨rfl, hb1⟩; have k4 := K4.out.below hb1; have k5 := K5.out.below hb1; have c40 := k4.cell (j := 0) rfl; have c41 := k4.cell (j := 1) rfl; have f40 := k4.frozen 0; have f41 := k4.frozen 1; have c50 := k5.cell (j := 0) rfl; have c51 := k5.cell (j := 1) rfl; have f50 := k5.frozen 0; have f51 := k5.frozen 1)
  refine bodyPost_ret (v := .tuple #[.agg #[.int .i64 0, .int .i64 0], .agg #[.int .i64 0, .int .i64 0], .bool false]) ?_ rfl ⟨rfl, ?_⟩
  · simp [results, Try.results26, go_sem, c40, c41, c50, c51]
  · have b1 := hb.trans (hb1.mono hz)
    exact (((b1.setCell (Nat.le_refl _) _).setCell (Nat.le_refl _) _).setCell (by simp) _).setCell (by simp) _

set_option maxHeartbeats 8000000 in
set_option maxRecDepth 100000 in
theorem squareLine_yes (b o c b' o' c' : Nat) (xs ys : List Int) (w : World) (A B : Rat) (h : RowI w b o xs) (h' : RowI w b' o' ys) (hc : Cl xs ys) (hcb : clB xs ys = true) (hA : lnA xs ys = A) (hB : lnB xs ys = B) :
    Calls Try.prog 26 #[.slice (some ⟨b, o, none⟩) xs.length c, .slice (some ⟨b', o', none⟩) ys.length c'] w
      fun e w' => e = .returned (.tuple #[.agg #[.int .i64 (up A), .int .i64 (dn A)], .agg #[.int .i64 (up B), .int .i64 (dn B)], .bool true]) ∧ Below w.heap.size w w' := by
  have hl : ys.length = xs.length := hc.pl.ne
  have n0 := hc.pl.n0
  have n7 := hc.pl.nm
  have hbd := ln_bd hc
  obtain ⟨P, hP⟩ : ∃ P, A * qd (suN xs xs.length) 1 = P := ⟨_, rfl⟩
  obtain ⟨Q, hQ⟩ : ∃ Q, qd (suN ys xs.length) 1 - P = Q := ⟨_, rfl⟩
  have hB' : Q * qd 1 xs.length = B := by rw [← hB, ← hQ, ← hP, ← hA]; rfl
  have sm := ln_sm hc hA hP hQ hB'
  have CV := Lib.hid (fun w h h' => hcb ▸ validCloud_any b o c b' o' c' xs ys w h h' (by omega) (by omega))
  have HX := Lib.hid hc.pl.x
  have HY := Lib.hid hc.pl.y
  obtain ⟨sx, hsx⟩ : ∃ z, suN xs xs.length = z := ⟨_, rfl⟩
  obtain ⟨sy, hsy⟩ : ∃ z, suN ys ys.length = z := ⟨_, rfl⟩
  have SX := Lib.hid (fun w (h : RowI w b o xs) => isum_any b o c xs sx w h (by omega) HX.out hsx)
  have SY := Lib.hid (fun w (h : RowI w b' o' ys) => isum_any b' o' c' ys sy w h (by omega) (fun k hk => HY.out k (by omega)) hsy)
  have H := Lib.hid h
  have H' := Lib.hid h'
  obtain ⟨n, hn⟩ : ∃ n, xs.length = n := ⟨_, rfl⟩
  have hn' : ys.length = n := by omega
  have hA2 : qd ((n : Int) * xyN xs ys n - sx * sy) ((n : Int) * sqN xs n - sx * sx) = A := by rw [← hA, ← hsx, ← hsy, hn', ← hn]; rfl
  obtain ⟨d1, d2, p1, p2, x1, x2, y1, y2, q1, q2, r1, r2⟩ := hbd
  rw [hsx] at hP x1 x2
  rw [show suN ys xs.length = sy from by rw [← hl]; exact hsy] at hQ
  rw [show suN ys xs.length = sy from by rw [← hl]; exact hsy] at y1 y2
  unfold lnD at d1 d2
  unfold lnN at p1 p2
  rw [hsx, hn] at d1 d2
  rw [hsx, show suN ys xs.length = sy from by rw [← hl]; exact hsy, hn] at p1 p2
  rw [hn] at q1 q2 r1 r2 n0 n7 hB'
  have XB := Lib.hid (fun k (hk : k ≤ n) => sqN_bd (xs := xs) k fun j hj => HX.out j (by omega))
  have YB := Lib.hid (fun k (hk : k ≤ n) => xyN_bd (xs := xs) (ys := ys) k (fun j hj => HX.out j (by omega)) fun j hj => HY.out j (by omega))
  have HX := Lib.hid (fun k (hk : k < n) => HX.out k (by omega))
  have HY := Lib.hid (fun k (hk : k < n) => HY.out k (by omega))
  have CX := Lib.hid (fun k (hk : k < n) w (h : RowI w b o xs) => h.cell k (by omega))
  have CY := Lib.hid (fun k (hk : k < n) w (h : RowI w b' o' ys) => h.cell k (by omega))
  rw [hn] at SX CV ⊢
  rw [hn'] at SY CV ⊢
  obtain ⟨qy, hqy⟩ : ∃ q, qd sy 1 = q := ⟨_, rfl⟩
  obtain ⟨qx, hqx⟩ : ∃ q, qd sx 1 = q := ⟨_, rfl⟩
  obtain ⟨qn, hqn⟩ : ∃ q, qd (n : Int) 1 = q := ⟨_, rfl⟩
  rw [hqy] at hQ
  rw [hqx] at hP
  have sy' : Sm 84 1 qy := hqy ▸ ⟨by rw [up_qd]; omega, by rw [up_qd]; omega, by rw [dn_qd]; omega⟩
  have sx' : Sm 84 1 qx := hqx ▸ ⟨by rw [up_qd]; omega, by rw [up_qd]; omega, by rw [dn_qd]; omega⟩
  have sn' : Sm 7 1 qn := hqn ▸ ⟨by rw [up_qd]; omega, by rw [up_qd]; omega, by rw [dn_qd]; omega⟩
  have WY := Lib.hid (whole_a sy qy hqy)
  have WX := Lib.hid (whole_a sx qx hqx)
  have WN := Lib.hid (whole_a n qn hqn)
  have m1 := mul_bd (x := (n : Int)) (y := xyN xs ys n) (A := 7) (B := 1008) (by omega) (by omega)
  have m2 := mul_bd (x := sx) (y := sy) (A := 84) (B := 84) (by omega) (by omega)
  have m3 := mul_bd (x := (n : Int)) (y := sqN xs n) (A := 7) (B := 1008) (by omega) (by omega)
  have m4 := mul_bd (x := sx) (y := sx) (A := 84) (B := 84) (by omega) (by omega)
  have FA := Lib.hid (fun w => frac_as ((n : Int) * xyN xs ys n - sx * sy) ((n : Int) * sqN xs n - sx * sx) A hA2 w (by omega) (by omega) (by omega) (by omega) (by omega))
  have t1 := sm_prod sm.a sx'
  rw [hP] at t1
  have t2 := sm_mul sy' sm.p
  have t3 := sm.a
  unfold Sm at sx' t3
  have TW := Lib.hid (fun w => times_any A qx P hP w (by omega) (by omega) (by omega) (by omega) (by omega) (by omega))
  have MW := Lib.hid (fun w => minus_any qy P Q hQ w (by omega) (by omega))
  have OW := Lib.hid (fun w => over_any Q qn (qd 1 n) B 1778112 7056 7 1 (by rw [← hqn, up_qd, dn_qd]) hB' w (by rw [← hqn, up_qd]; omega) sm.q sn' (by omega) (by omega) (by omega) (by omega) (by omega) (by omega))
  clear h h' hc hcb hA hB hP hQ hB' hsx hsy hl hn hn' hA2 hqy hqx hqn sy' sx' sn' sm t1 t2 t3
  go_enter Try.func26, Try.ntmps26
  go_upto_region 1 with fail
  refine wp_abstract (fun W => Blk W w.heap.size 31 [.int .i64 0, .int .i64 0] ∧ Blk W (w.heap.size + 1) 31 [.int .i64 0, .int .i64 0] ∧ Below w.heap.size w W)
    ⟨(Blk.made' _ rfl rfl).allocs _, Blk.made' _ (by simp) rfl, by (repeat' (first | (with_reducible exact Below.refl _ _) | (with_reducible assumption) | (with_reducible refine Below.drewN ?_ _) | (with_reducible refine Below.alloc ?_ ?_ _) | (with_reducible refine Below.drew ?_) | (with_reducible refine Below.setCell ?_ ?_ _) | (with_reducible refine Below.trans ?_ (Below.mono (by assumption) ?_)) | go_size | (with_reducible refine Nat.le_trans ?_ (Below.size (by assumption)))))⟩ ?_
  rintro W0 ⟨hk4, hk5, hb⟩
  have K4 := Lib.hid hk4
  have K5 := Lib.hid hk5
  have B0 := Lib.hid hb
  have hz := hb.size
  clear hk4 hk5 hb
  go_wp2_with (go_at_call 50; refine (CV.out _ (H.out.below B0.out) (H'.out.below B0.out)).mono ?_; rintro e w1 ⟨rfl, hb1⟩)
  have K4 := Lib.hid (K4.out.below hb1)
  have K5 := Lib.hid (K5.out.below hb1)
  have B1 := Lib.hid (B0.out.trans (hb1.mono hz))
  have H := Lib.hid (H.out.below B1.out)
  have H' := Lib.hid (H'.out.below B1.out)
  have hz1 := hb1.size
  have lk5 := K5.out.lt
  clear hb1 B0
  go_loop [8, 9, 24] (fun v8 v9 v24 => ∃ k : Nat, k ≤ n ∧ v24 = .int .i64 k ∧ v8 = .int .i64 (sqN xs k) ∧ v9 = .int .i64 (xyN xs ys k)) (fun _ _ v24 => n - (intOf v24).toNat)
  case atStart => exact ⟨0, Nat.zero_le _, rfl, rfl, rfl⟩
  case round =>
    obtain ⟨k, hk, rfl, rfl, rfl⟩ := hrel
    by_cases hlt : k < n
    · have c1 := CX.out k hlt _ H.out
      have c2 := CY.out k hlt _ H'.out
      have b1 := XB.out k hk
      have b2 := YB.out k hk
      have b3 := HX.out k hlt
      have b4 := HY.out k hlt
      have b5 := mul_bd b3 b3
      have b6 := mul_bd b3 b4
      have E1 := Lib.hid (show sqN xs k + gi xs k * gi xs k = sqN xs (k + 1) from rfl)
      have E2 := Lib.hid (show xyN xs ys k + gi xs k * gi ys k = xyN xs ys (k + 1) from rfl)
      go_wp2_with fail
      go_round
      case rel => exact ⟨k + 1, by omega, by go_num, by rw [← E1.out], by rw [← E2.out]⟩
      case measure => simp [intOf]; omega
    · obtain rfl : k = n := by omega
      generalize xyN xs ys k = xy at *
      generalize sqN xs k = xx at *
      clear hlt XB YB CX CY HX HY
      go_upto_region 11 with (first
        | (go_at_call_of 70 b'; refine (SY.out _ (H'.out.below (by (repeat' (first | (with_reducible exact Below.refl _ _) | (with_reducible assumption) | (with_reducible refine Below.drewN ?_ _) | (with_reducible refine Below.alloc ?_ ?_ _) | (with_reducible refine Below.drew ?_) | (with_reducible refine Below.setCell ?_ ?_ _) | (with_reducible refine Below.trans ?_ (Below.mono (by assumption) ?_)) | go_size | (with_reducible refine Nat.le_trans ?_ (Below.size (by assumption)))))))).mono ?_; rintro e w2 ⟨rfl, hb2⟩)
        | (go_at_call_of 70 b; refine (SX.out _ (H.out.below (by (repeat' (first | (with_reducible exact Below.refl _ _) | (with_reducible assumption) | (with_reducible refine Below.drewN ?_ _) | (with_reducible refine Below.alloc ?_ ?_ _) | (with_reducible refine Below.drew ?_) | (with_reducible refine Below.setCell ?_ ?_ _) | (with_reducible refine Below.trans ?_ (Below.mono (by assumption) ?_)) | go_size | (with_reducible refine Nat.le_trans ?_ (Below.size (by assumption)))))))).mono ?_; rintro e w2 ⟨rfl, hb2⟩)
        | (go_at_call 69; refine (FA.out _).mono ?_; rintro e w3 ⟨rfl, hb3⟩))
      obtain ⟨g12, hg12⟩ : ∃ g, w3.heap.size = g := ⟨_, rfl⟩
      rw [hg12]
      refine wp_abstract (fun W => Blk W g12 31 [.int .i64 (up A), .int .i64 (dn A)] ∧ w1.heap.size ≤ g12 ∧ Below w1.heap.size w1 W) ⟨Blk.made' _ hg12.symm rfl, by rw [← hg12]; (repeat' (first | (with_reducible exact Below.refl _ _) | (with_reducible assumption) | (with_reducible refine Below.drewN ?_ _) | (with_reducible refine Below.alloc ?_ ?_ _) | (with_reducible refine Below.drew ?_) | (with_reducible refine Below.setCell ?_ ?_ _) | (with_reducible refine Below.trans ?_ (Below.mono (by assumption) ?_)) | go_size | (with_reducible refine Nat.le_trans ?_ (Below.size (by assumption))))), by (repeat' (first | (with_reducible exact Below.refl _ _) | (with_reducible assumption) | (with_reducible refine Below.drewN ?_ _) | (with_reducible refine Below.alloc ?_ ?_ _) | (with_reducible refine Below.drew ?_) | (with_reducible refine Below.setCell ?_ ?_ _) | (with_reducible refine Below.trans ?_ (Below.mono (by assumption) ?_)) | go_size | (with_reducible refine Nat.le_trans ?_ (Below.size (by assumption)))))⟩ ?_
      rintro W5 ⟨hk12, hz12, hb5⟩
      have d1 := hk12.cell (j := 0) rfl
      have d2 := hk12.cell (j := 1) rfl
      have l12 := hk12.lt
      have HH := Lib.hid (H.out.below hb5)
      have HH' := Lib.hid (H'.out.below hb5)
      have K12 := Lib.hid hk12
      have K4 := Lib.hid (K4.out.below hb5)
      have K5 := Lib.hid (K5.out.below hb5)
      have B5 := Lib.hid (B1.out.trans (hb5.mono (by omega)))
      clear hg12 hk12 hb5
      (refine region_box_tail 12 (by kernel_rfl) (by kernel_rfl) rfl allocF ?_; intro WB gB hWB hgB; obtain ⟨ι, W, hCW, hWn, hWm, hWb⟩ := cl_worlds WB; rw [hCW])
      have z1 : ∀ i, (W i).cell? ⟨g12, 0, none⟩ = some (.int .i64 (up A)) := fun i => keepC (hWb i) (keepC hWB d1)
      have z2 : ∀ i, (W i).cell? ⟨g12, 1, none⟩ = some (.int .i64 (dn A)) := fun i => keepC (hWb i) (keepC hWB d2)
      have HH := Lib.hid (fun i => (HH.out.below hWB).below (hWb i))
      have HH' := Lib.hid (fun i => (HH'.out.below hWB).below (hWb i))
      (simp only [Act.put, List.setIfInBounds_toArray, List.set_cons_zero, List.set_cons_succ, List.take_succ_cons, List.take_zero]; (repeat (go_big_quiet_step (first
        | (go_at_call_of 70 b'; exact (SY.out _ (HH'.out _)).mono fun e w'' h => ⟨h.1, hWm _ _ h.2⟩)
        | (go_at_call_of 70 b; exact (SX.out _ (HH.out _)).mono fun e w'' h => ⟨h.1, hWm _ _ h.2⟩)
        | (go_at_call_of 51 sy; exact (WY.out _).mono fun e w'' h => ⟨h.1, hWm _ _ h.2⟩)
        | (go_at_call_of 51 sx; exact (WX.out _).mono fun e w'' h => ⟨h.1, hWm _ _ h.2⟩)
        | (go_at_call_of 51 k; exact (WN.out _).mono fun e w'' h => ⟨h.1, hWm _ _ h.2⟩)
        | (go_at_call 57; exact (TW.out _).mono fun e w'' h => ⟨h.1, hWm _ _ h.2⟩)
        | (go_at_call 58; exact (MW.out _).mono fun e w'' h => ⟨h.1, hWm _ _ h.2⟩)
        | (go_at_call 71; exact (OW.out _).mono fun e w'' h => ⟨h.1, hWm _ _ h.2⟩)))); refine wpQuiet_nil ?_; rintro _ ⟨iw, rfl⟩ hkB)
      have b0 := hkB.cell (j := 0) rfl
      have b1 := hkB.cell (j := 1) rfl
      have b2 := hkB.frozen 0
      have b3 := hkB.frozen 1
      have lB := hkB.lt
      go_upto_region 12 with fail
      have l125 : w.heap.size + 1 < g12 := by omega
      have n1 : gB ≠ w.heap.size := by omega
      have n2 : gB ≠ w.heap.size + 1 := by omega
      have n3 : g12 ≠ w.heap.size := by omega
      have n4 : g12 ≠ w.heap.size + 1 := by omega
      obtain ⟨w9, hw9⟩ : ∃ w9, w9 = ((W iw).setCell ⟨gB, 0, none⟩ (.int .i64 (up B))).setCell ⟨gB, 1, none⟩ (.int .i64 (dn B)) := ⟨_, rfl⟩
      rw [← hw9]
      have k13 : Blk w9 gB 31 [.int .i64 (up B), .int .i64 (dn B)] := by rw [hw9]; exact hkB.two (x := .int .i64 0) (y := .int .i64 0) _ _
      have hbW := hWB.trans ((hWb iw).mono hWB.size)
      have bw9 : Below W5.heap.size W5 w9 := by rw [hw9]; exact (hbW.setCell (by show W5.heap.size ≤ gB; exact hgB) _).setCell (by show W5.heap.size ≤ gB; exact hgB) _
      clear hw9 hkB b0 b1 b2 b3 lB
      have k4 := K4.out.below bw9
      have k5 := K5.out.below bw9
      have k12 := K12.out.below bw9
      have x1 := k12.cell (j := 0) rfl
      have x2 := k12.cell (j := 1) rfl
      have x3 := k13.cell (j := 0) rfl
      have x4 := k13.cell (j := 1) rfl
      have f40 := k4.frozen 0
      have f41 := k4.frozen 1
      have f50 := k5.frozen 0
      have f51 := k5.frozen 1
      have c40 := k4.cell (j := 0) rfl
      have c41 := k4.cell (j := 1) rfl
      have c50 := k5.cell (j := 0) rfl
      have c51 := k5.cell (j := 1) rfl
      have hz5 := B5.out.size
      have BB := Lib.hid (B5.out.trans (bw9.mono hz5))
      have K4 := Lib.hid k4
      have K5 := Lib.hid k5
      clear k4 k5 k12 k13 bw9 hbW hWB hgB
      go_region
      all_goals go_wp2_with fail
      all_goals refine bodyPost_ret (v := .tuple #[.agg #[.int .i64 (up A), .int .i64 (dn A)], .agg #[.int .i64 (up B), .int .i64 (dn B)], .bool true]) ?_ rfl ⟨rfl, ?_⟩
      all_goals first
        | (simp [results, Try.results26, go_sem, c40, c41, c50, c51]; done)
        | (have bb := BB.out; (repeat' (first | (with_reducible exact Below.refl _ _) | (with_reducible assumption) | (with_reducible refine Below.drewN ?_ _) | (with_reducible refine Below.alloc ?_ ?_ _) | (with_reducible refine Below.drew ?_) | (with_reducible refine Below.setCell ?_ ?_ _) | (with_reducible refine Below.trans ?_ (Below.mono (by assumption) ?_)) | go_size | (with_reducible refine Nat.le_trans ?_ (Below.size (by assumption))))))
      all_goals simp

end Go.Proofs.Ytoioafadenniiaa
