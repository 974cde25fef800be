/- The law laws.FnSquareLine returns true for all codes, and changes no memory that was there. -/
import Derived.Test.YtoioafadenniiaaLineSq
import Derived.Test.YtoioafadenniiaaLineL
import Derived.Test.YtoioafadenniiaaCloudGen
namespace Go.Proofs.Ytoioafadenniiaa
open Go.RowKit

/-- What the law does behind the two calls, when the points are none. -/
theorem line_as (b o c b' o' c' : Nat) (xs ys : List Int) (A B : Rat) (ok : Bool) (w : World) (h : RowI w b o xs) (h' : RowI w b' o' ys) (hm : xs.length ≤ 1099511627776) (hm' : ys.length ≤ 1099511627776)
    (hA : lnA xs ys = A) (hB : lnB xs ys = B) (hok : clB xs ys = ok) (U1 D1 U2 D2 : Int) (e1 : (if ok then up A else 0) = U1) (e2 : (if ok then dn A else 0) = D1) (e3 : (if ok then up B else 0) = U2) (e4 : (if ok then dn B else 0) = D2) :
    (Calls Try.prog 26 #[.slice (some ⟨b, o, none⟩) xs.length c, .slice (some ⟨b', o', none⟩) ys.length c'] w
      fun e w' => e = .returned (.tuple #[.agg #[.int .i64 U1, .int .i64 D1], .agg #[.int .i64 U2, .int .i64 D2], .bool ok]) ∧ Below w.heap.size w w') ∧
    (Calls Try.prog 27 #[.slice (some ⟨b, o, none⟩) xs.length c, .slice (some ⟨b', o', none⟩) ys.length c'] w
      fun e w' => e = .returned (.tuple #[.agg #[.int .i64 U1, .int .i64 D1], .agg #[.int .i64 U2, .int .i64 D2], .bool ok]) ∧ Below w.heap.size w w') := by
  subst e1 e2 e3 e4
  cases ok with
  | false => exact ⟨squareLine_no b o c b' o' c' xs ys w h h' hm hm' hok, ssquareLine_no b o c b' o' c' xs ys w h h' hm hm' hok⟩
  | true => exact ⟨squareLine_yes b o c b' o' c' xs ys w A B h h' (cl_of hok) hok hA hB, ssquareLine_yes b o c b' o' c' xs ys w A B h h' (cl_of hok) hok hA hB⟩

set_option maxHeartbeats 16000000 in
set_option maxRecDepth 100000 in
theorem FnSquareLine_main (ad : Option Addr) (n c : Nat) (w : World) (h : CodeB w w.heap.size ad n) (hn : n ≤ 1048576) (hc : n ≤ c) :
    Calls Try.prog 6 #[.slice ad n c] w fun e w' => e = .returned (.bool true) ∧ Below w.heap.size w w' := by
  have H := Lib.hid h
  clear h
  go_enter Try.func6, Try.ntmps6
  go_wp2_with fail
  refine (drawSquareLine_any ad n c w H.out (by omega) hc).mono ?_
  rintro e w2 ⟨g1, c1, g2, c2, xs, ys, rfl, k1, k2, r1, r2, l1, l2, hb2⟩
  have R1 := Lib.hid r1
  have R2 := Lib.hid r2
  have z2 := hb2.size
  obtain ⟨A, hA⟩ : ∃ A, lnA xs ys = A := ⟨_, rfl⟩
  obtain ⟨B, hB⟩ : ∃ A, lnB xs ys = A := ⟨_, rfl⟩
  obtain ⟨ok, hok⟩ : ∃ A, clB xs ys = A := ⟨_, rfl⟩
  obtain ⟨U1, hU1⟩ : ∃ U, (if ok then up A else 0) = U := ⟨_, rfl⟩
  obtain ⟨D1, hD1⟩ : ∃ U, (if ok then dn A else 0) = U := ⟨_, rfl⟩
  obtain ⟨U2, hU2⟩ : ∃ U, (if ok then up B else 0) = U := ⟨_, rfl⟩
  obtain ⟨D2, hD2⟩ : ∃ U, (if ok then dn B else 0) = U := ⟨_, rfl⟩
  have CI := Lib.hid (fun w (h : RowI w g1 0 xs) (h' : RowI w g2 0 ys) => (line_as g1 0 c1 g2 0 c2 xs ys A B ok w h h' (by omega) (by omega) hA hB hok U1 D1 U2 D2 hU1 hD1 hU2 hD2).1)
  have CS := Lib.hid (fun w (h : RowI w g1 0 xs) (h' : RowI w g2 0 ys) => (line_as g1 0 c1 g2 0 c2 xs ys A B ok w h h' (by omega) (by omega) hA hB hok U1 D1 U2 D2 hU1 hD1 hU2 hD2).2)
  have HA := Lib.hid hA
  have HB := Lib.hid hB
  have HOK := Lib.hid hok
  have HU1 := Lib.hid hU1
  have HD1 := Lib.hid hD1
  have HU2 := Lib.hid hU2
  have HD2 := Lib.hid hD2
  clear r1 r2 hA hB hok hU1 hD1 hU2 hD2
  go_upto_region 5 with (go_at_call 26; refine (CI.out _ R1.out R2.out).mono ?_; rintro e w3 ⟨rfl, b3⟩)
  obtain ⟨g5, hg5⟩ : ∃ g, w3.heap.size = g := ⟨_, rfl⟩
  rw [hg5]
  have z3 := b3.size
  refine wp_abstract (fun W => Blk W g5 31 [.int .i64 U1, .int .i64 D1] ∧ Blk W (g5 + 1) 31 [.int .i64 U2, .int .i64 D2] ∧ Below w2.heap.size w2 W) ⟨?_, ?_, by (repeat' (first | (with_reducible exact Below.refl _ _) | (with_reducible assumption) | (with_reducible refine Below.drewN ?_ _) | (with_reducible refine Below.alloc ?_ ?_ _) | (with_reducible refine Below.drew ?_) | (with_reducible refine Below.setCell ?_ ?_ _) | (with_reducible refine Below.trans ?_ (Below.mono (by assumption) ?_)) | go_size | (with_reducible refine Nat.le_trans ?_ (Below.size (by assumption)))))⟩ ?_
  · subst hg5
    exact (Blk.made' _ rfl rfl).allocs _
  · subst hg5
    exact Blk.made' _ (by simp) rfl
  rintro w4 ⟨k5, k6, b4⟩
  have hg5w : w.heap.size ≤ g5 := by omega
  have R1 := Lib.hid (R1.out.below b4)
  have R2 := Lib.hid (R2.out.below b4)
  have K5 := Lib.hid k5
  have K6 := Lib.hid k6
  have B4 := Lib.hid (hb2.trans (b4.mono z2))
  have z4 := b4.size
  clear k5 k6 b4 b3 hb2 hg5 z3
  go_upto_region 6 with (go_at_call 27; refine (CS.out _ R1.out R2.out).mono ?_; rintro e w5 ⟨rfl, b5⟩)
  obtain ⟨g8, hg8⟩ : ∃ g, w5.heap.size = g := ⟨_, rfl⟩
  rw [hg8]
  have z5 := b5.size
  refine wp_abstract (fun W => Blk W g8 31 [.int .i64 U1, .int .i64 D1] ∧ Blk W (g8 + 1) 31 [.int .i64 U2, .int .i64 D2] ∧ Below w4.heap.size w4 W) ⟨?_, ?_, by (repeat' (first | (with_reducible exact Below.refl _ _) | (with_reducible assumption) | (with_reducible refine Below.drewN ?_ _) | (with_reducible refine Below.alloc ?_ ?_ _) | (with_reducible refine Below.drew ?_) | (with_reducible refine Below.setCell ?_ ?_ _) | (with_reducible refine Below.trans ?_ (Below.mono (by assumption) ?_)) | go_size | (with_reducible refine Nat.le_trans ?_ (Below.size (by assumption)))))⟩ ?_
  · subst hg8
    exact (Blk.made' _ rfl rfl).allocs _
  · subst hg8
    exact Blk.made' _ (by simp) rfl
  rintro w6 ⟨k8, k9, b6⟩
  have z6 := b6.size
  have R1 := Lib.hid (R1.out.below b6)
  have R2 := Lib.hid (R2.out.below b6)
  have K5 := Lib.hid (K5.out.below b6)
  have K6 := Lib.hid (K6.out.below b6)
  have B6 := Lib.hid (B4.out.trans (b6.mono (by omega)))
  have x1 := K5.out.cell (j := 0) rfl
  have x2 := K5.out.cell (j := 1) rfl
  have x3 := K6.out.cell (j := 0) rfl
  have x4 := K6.out.cell (j := 1) rfl
  have x5 := k8.cell (j := 0) rfl
  have x6 := k8.cell (j := 1) rfl
  have x7 := k9.cell (j := 0) rfl
  have x8 := k9.cell (j := 1) rfl
  clear k8 k9 b6 b5 hg8 z5 B4
  cases ok with
  | false =>
    go_wp2_with fail
    go_ret
    exact ⟨rfl, B6.out⟩
  | true =>
    have hcl := cl_of HOK.out
    have eU1 : U1 = up A := by rw [← HU1.out]; rfl
    have eD1 : D1 = dn A := by rw [← HD1.out]; rfl
    have eU2 : U2 = up B := by rw [← HU2.out]; rfl
    have eD2 : D2 = dn B := by rw [← HD2.out]; rfl
    subst eU1 eD1 eU2 eD2
    obtain ⟨m, hm⟩ : ∃ m, xs.length = m := ⟨_, rfl⟩
    have hm' : ys.length = m := by rw [← hm]; exact hcl.pl.ne
    have n7 := hcl.pl.nm
    have hd1 := (ln_bd hcl).d1
    have hd2 := (ln_bd hcl).d2
    have n0 := hcl.pl.n0
    have E0 : 0 < lnD xs * (xs.length : Int) := Int.mul_pos (by omega) (by omega)
    have E1 : lnD xs * (xs.length : Int) ≤ 49392 := Int.le_trans (Int.mul_le_mul hd2 (show (xs.length : Int) ≤ 7 by omega) (by omega) (by omega)) (by omega)
    have BS := Lib.hid (fun k (hk : k ≤ m) => let s := sums_bd hcl k (by omega); (⟨(s.1.mono (L := 24893568) (by omega)).sm E0 E1, (s.2.mono (L := 298722816) (by omega)).sm E0 E1⟩ : Sm 24893568 49392 (sdR xs ys k) ∧ Sm 298722816 49392 (sxR xs ys k)))
    have BD := Lib.hid (fun k (hk : k < m) => let d := (dv_bd hcl k (by omega)); (⟨HA.out ▸ d.t, HA.out ▸ HB.out ▸ d.s, d.d.sm E0 E1, (d.d.mul (M := 12) (hcl.pl.x k (by omega))).sm E0 E1⟩ : Sm 169344 7056 (A * qd (gi xs k) 1) ∧ Sm 2963520 49392 (A * qd (gi xs k) 1 + B) ∧ Sm 3556224 49392 (dvR xs ys k) ∧ Sm 42674688 49392 (dvR xs ys k * qd (gi xs k) 1)))
    have DE := Lib.hid (fun k => (show qd (gi ys k) 1 - (A * qd (gi xs k) 1 + B) = dvR xs ys k by rw [← HA.out, ← HB.out]; rfl))
    have LZ := Lib.hid (hm ▸ line_zero hcl)
    have sA : Sm 14112 7056 A := (ln_sm hcl HA.out rfl rfl rfl).a
    have sB : Sm 1778112 49392 B := (ln_sm hcl HA.out rfl rfl (by have e := HB.out; unfold lnB at e; rw [HA.out] at e; exact e)).b
    have SA := Lib.hid sA
    have SB := Lib.hid sB
    have PX := Lib.hid (fun k (hk : k < m) => hcl.pl.x k (by omega))
    have PY := Lib.hid (fun k (hk : k < m) => hcl.pl.y k (by omega))
    have CX := Lib.hid (fun k (hk : k < m) w (h : RowI w g1 0 xs) => h.cell k (by omega))
    have CY := Lib.hid (fun k (hk : k < m) w (h : RowI w g2 0 ys) => h.cell k (by omega))
    have Z0 := Lib.hid (fun w => lfrac_as 0 1 0 (by unfold qd; simp) w (by omega) (by omega) (by omega) (by omega) (by omega))
    have u0 : up (0 : Rat) = 0 := rfl
    have m7 : m ≤ 7 := by omega
    rw [hm, hm']
    clear hm hm' n7 hd1 hd2 n0 E0 E1 sA sB hcl l1 l2
    go_upto_region 8 with fail
    clear x5 x6 x7 x8
    go_upto_region 9 with (go_at_call 28; refine (Z0.out _).mono ?_; rintro e w7 ⟨rfl, b7⟩)
    obtain ⟨g11, hg11⟩ : ∃ g, w7.heap.size = g := ⟨_, rfl⟩
    rw [hg11]
    have z7 := b7.size
    refine wp_abstract (fun W => Blk W g11 31 [.int .i64 (up 0), .int .i64 (dn 0)] ∧ Below w6.heap.size w6 W) ⟨Blk.made' _ hg11.symm rfl, by (repeat' (first | (with_reducible exact Below.refl _ _) | (with_reducible assumption) | (with_reducible refine Below.drewN ?_ _) | (with_reducible refine Below.alloc ?_ ?_ _) | (with_reducible refine Below.drew ?_) | (with_reducible refine Below.setCell ?_ ?_ _) | (with_reducible refine Below.trans ?_ (Below.mono (by assumption) ?_)) | go_size | (with_reducible refine Nat.le_trans ?_ (Below.size (by assumption)))))⟩ ?_
    rintro w8 ⟨k11, b8⟩
    have z11 : w6.heap.size ≤ g11 := by omega
    have l11 := k11.lt
    have K11 := Lib.hid k11
    have B8 := Lib.hid b8
    have z8 := b8.size
    clear k11 b8 b7 hg11 z7
    go_upto_region 10 with (go_at_call 28; refine (Z0.out _).mono ?_; rintro e w7 ⟨rfl, b7⟩)
    obtain ⟨g12, hg12⟩ : ∃ g, w7.heap.size = g := ⟨_, rfl⟩
    rw [hg12]
    have z7 := b7.size
    refine wp_abstract (fun W => Blk W g12 31 [.int .i64 (up 0), .int .i64 (dn 0)] ∧ Below w8.heap.size w8 W) ⟨Blk.made' _ hg12.symm rfl, by (repeat' (first | (with_reducible exact Below.refl _ _) | (with_reducible assumption) | (with_reducible refine Below.drewN ?_ _) | (with_reducible refine Below.alloc ?_ ?_ _) | (with_reducible refine Below.drew ?_) | (with_reducible refine Below.setCell ?_ ?_ _) | (with_reducible refine Below.trans ?_ (Below.mono (by assumption) ?_)) | go_size | (with_reducible refine Nat.le_trans ?_ (Below.size (by assumption)))))⟩ ?_
    rintro w9 ⟨k12, b9⟩
    have z12 : g11 < g12 := by omega
    have K11 := Lib.hid (K11.out.below b9)
    have K12 := Lib.hid k12
    have B9 := Lib.hid (B8.out.trans (b9.mono z8))
    clear k12 b9 b7 hg12 z7 B8 l11 z8
    have R0 := R1
    go_wp2_with fail
    go_loopw [13] (fun v13 wr => ∃ k : Nat, k ≤ m ∧ v13 = .int .i64 k ∧ Blk wr g11 31 [.int .i64 (up (sdR xs ys k)), .int .i64 (dn (sdR xs ys k))] ∧ Blk wr g12 31 [.int .i64 (up (sxR xs ys k)), .int .i64 (dn (sxR xs ys k))] ∧ Below w6.heap.size w6 wr) (fun v13 _ => m - (intOf v13).toNat)
    case atStart => exact ⟨0, Nat.zero_le _, rfl, K11.out, K12.out, B9.out⟩
    case round =>
      clear K11 K12 B9
      obtain ⟨k, hk, rfl, k11, k12, br⟩ := hrel
      have K11 := Lib.hid k11
      have K12 := Lib.hid k12
      have BR := Lib.hid br
      have zr := br.size
      have l11 := k11.lt
      have l12 := k12.lt
      clear k11 k12 br
      by_cases hlt : k < m
      · have R1 := Lib.hid (R1.out.below BR.out)
        have R2 := Lib.hid (R2.out.below BR.out)
        have c1 := CX.out k hlt _ R1.out
        have c2 := CY.out k hlt _ R2.out
        have y1 := (K5.out.below BR.out).cell (j := 0) rfl
        have y2 := (K5.out.below BR.out).cell (j := 1) rfl
        have y3 := (K6.out.below BR.out).cell (j := 0) rfl
        have y4 := (K6.out.below BR.out).cell (j := 1) rfl
        rw [Nat.zero_add] at c1 c2
        have bx := PX.out k hlt
        have by' := PY.out k hlt
        have dd := BD.out k hlt
        have ss := BS.out k hk
        have e1 := DE.out k
        have e2 : sdR xs ys k + dvR xs ys k = sdR xs ys (k + 1) := rfl
        have e3 : sxR xs ys k + dvR xs ys k * qd (gi xs k) 1 = sxR xs ys (k + 1) := rfl
        have sA := SA.out
        have sB := SB.out
        obtain ⟨x, hx⟩ : ∃ x, gi xs k = x := ⟨_, rfl⟩
        obtain ⟨y, hy⟩ : ∃ x, gi ys k = x := ⟨_, rfl⟩
        have HXK := Lib.hid hx
        rw [hx] at c1 bx dd e1 e3
        rw [hy] at c2 by' e1
        obtain ⟨d, hd⟩ : ∃ x, dvR xs ys k = x := ⟨_, rfl⟩
        obtain ⟨sd, hsd⟩ : ∃ x, sdR xs ys k = x := ⟨_, rfl⟩
        obtain ⟨sx, hsx⟩ : ∃ x, sxR xs ys k = x := ⟨_, rfl⟩
        rw [hd] at dd e1 e2 e3
        rw [hsd] at ss e2 K11
        rw [hsx] at ss e3 K12
        obtain ⟨sd', hsd'⟩ : ∃ x, sdR xs ys (k + 1) = x := ⟨_, rfl⟩
        obtain ⟨sx', hsx'⟩ : ∃ x, sxR xs ys (k + 1) = x := ⟨_, rfl⟩
        rw [hsd'] at e2
        rw [hsx'] at e3
        obtain ⟨qx, hqx⟩ : ∃ q, qd x 1 = q := ⟨_, rfl⟩
        have sqx : Sm 12 1 qx := hqx ▸ sm_qd (by omega) (by omega) (by omega) (by omega)
        have sqy : Sm 12 1 (qd y 1) := sm_qd (by omega) (by omega) (by omega) (by omega)
        have t1 := sm_mul sA sqx
        have t1' := mul_bd (x := up A) (y := up qx) (A := 14112) (B := 12) ⟨sA.1, sA.2.1⟩ ⟨sqx.1, sqx.2.1⟩
        have t2 := sm_mul dd.1 sB
        have t3 := sm_mul sqy dd.2.1
        have t4 := dd.2.1
        have t5 := sm_mul ss.1 dd.2.2.1
        have t6 := sm_mul dd.2.2.1 sqx
        have t6' := mul_bd (x := up d) (y := up qx) (A := 3556224) (B := 12) ⟨dd.2.2.1.1, dd.2.2.1.2.1⟩ ⟨sqx.1, sqx.2.1⟩
        have t7 := sm_mul ss.2 dd.2.2.2
        rw [hqx] at e3 t7
        have OW := Lib.hid (fun w => overOf_any x y A B _ _ d w bx by' rfl rfl e1 (by rw [hqx]; omega) (by omega) (by omega) (by unfold Sm at t4; omega))
        have PW := Lib.hid (fun w => lplus_any sd d sd' e2 w (by omega) (by omega))
        obtain ⟨dx, hdx⟩ : ∃ q, d * qx = q := ⟨_, rfl⟩
        rw [hdx] at e3 t7
        have TW := Lib.hid (fun w => ltimes_any d qx dx hdx w (by omega) (by omega))
        have FW := Lib.hid (fun w => lfrac_as x 1 qx hqx w (by omega) (by omega) (by omega) (by omega) (by omega))
        have PX' := Lib.hid (fun w => lplus_any sx dx sx' e3 w (by omega) (by omega))
        have HSD := Lib.hid hsd'
        have HSX := Lib.hid hsx'
        clear e1 e2 e3 dd ss t1 t1' t2 t3 t4 t5 t6 t6' t7 sqx sqy hx hy hd hsd hsx hsd' hsx' hqx hdx sA sB bx by'
        go_upto_region 13 with fail
        (refine region_box_tail 11 (by kernel_rfl) (by kernel_rfl) rfl allocF ?_; intro WB gB hWB hgB; obtain ⟨ι, W, hCW, hWn, hWm, hWb⟩ := cl_worlds WB; rw [hCW])
        have v1 : ∀ i, (W i).cell? ⟨g1, k, none⟩ = some (.int .i64 x) := fun i => keepC (hWb i) (keepC hWB c1)
        have v2 : ∀ i, (W i).cell? ⟨g2, k, none⟩ = some (.int .i64 y) := fun i => keepC (hWb i) (keepC hWB c2)
        have v3 : ∀ i, (W i).cell? ⟨g5, 0, none⟩ = some (.int .i64 (up A)) := fun i => keepC (hWb i) (keepC hWB y1)
        have v4 : ∀ i, (W i).cell? ⟨g5, 1, none⟩ = some (.int .i64 (dn A)) := fun i => keepC (hWb i) (keepC hWB y2)
        have v5 : ∀ i, (W i).cell? ⟨g5 + 1, 0, none⟩ = some (.int .i64 (up B)) := fun i => keepC (hWb i) (keepC hWB y3)
        have v6 : ∀ i, (W i).cell? ⟨g5 + 1, 1, none⟩ = some (.int .i64 (dn B)) := fun i => keepC (hWb i) (keepC hWB y4)
        (simp only [Act.put, List.setIfInBounds_toArray, List.set_cons_zero, List.set_cons_succ, List.take_succ_cons, List.take_zero]; (repeat (go_big_quiet_step ((go_at_call 29; exact (OW.out _).mono fun e w'' h => ⟨h.1, hWm _ _ h.2⟩)))); refine wpQuiet_nil ?_; rintro _ ⟨iw, rfl⟩ hkB)
        have b0 := hkB.cell (j := 0) rfl
        have b1 := hkB.cell (j := 1) rfl
        have b2 := hkB.frozen 0
        have b3 := hkB.frozen 1
        have lB := hkB.lt
        go_upto_region 14 with fail
        obtain ⟨w9, hw9⟩ : ∃ w9, w9 = ((W iw).setCell ⟨gB, 0, none⟩ (.int .i64 (up d))).setCell ⟨gB, 1, none⟩ (.int .i64 (dn d)) := ⟨_, rfl⟩
        rw [← hw9]
        have k14 : Blk w9 gB 31 [.int .i64 (up d), .int .i64 (dn d)] := by rw [hw9]; exact hkB.two (x := .int .i64 0) (y := .int .i64 0) _ _
        have hbW := hWB.trans ((hWb iw).mono hWB.size)
        have bw9 : Below wr.heap.size wr w9 := by rw [hw9]; exact (hbW.setCell (by show wr.heap.size ≤ gB; exact hgB) _).setCell (by show wr.heap.size ≤ gB; exact hgB) _
        have hz9 := bw9.size
        have K14 := Lib.hid k14
        have K11 := Lib.hid (K11.out.below bw9)
        have K12 := Lib.hid (K12.out.below bw9)
        have R1 := Lib.hid (R1.out.below bw9)
        have B9 := Lib.hid (BR.out.trans (bw9.mono zr))
        clear hw9 hkB b0 b1 b2 b3 lB k14 bw9 hbW hWB v1 v2 v3 v4 v5 v6 hWb hWm hCW hWn c1 c2 y1 y2 y3 y4
        clear iw W
        have s1 := K11.out.cell (j := 0) rfl
        have s2 := K11.out.cell (j := 1) rfl
        have s3 := K14.out.cell (j := 0) rfl
        have s4 := K14.out.cell (j := 1) rfl
        have l14 := K14.out.lt
        go_upto_region 15 with (go_at_call 30; refine (PW.out _).mono ?_; rintro e w10 ⟨rfl, b10⟩; have q11 := K11.out.below b10; have q1 := q11.cell (j := 0) rfl; have q2 := q11.cell (j := 1) rfl; have q3 := q11.frozen 0; have q4 := q11.frozen 1)
        obtain ⟨w11, hw11⟩ : ∃ w11, w11 = (w10.setCell ⟨g11, 0, none⟩ (.int .i64 (up sd'))).setCell ⟨g11, 1, none⟩ (.int .i64 (dn sd')) := ⟨_, rfl⟩
        rw [← hw11]
        have n1 : (⟨g11, 0, none⟩ : Addr).block ≠ g12 := by show g11 ≠ g12; omega
        have n2 : (⟨g11, 1, none⟩ : Addr).block ≠ g12 := by show g11 ≠ g12; omega
        have n3 : (⟨g11, 0, none⟩ : Addr).block ≠ gB := by show g11 ≠ gB; omega
        have n4 : (⟨g11, 1, none⟩ : Addr).block ≠ gB := by show g11 ≠ gB; omega
        have k11 : Blk w11 g11 31 [.int .i64 (up sd'), .int .i64 (dn sd')] := by rw [hw11]; exact q11.two (x := .int .i64 (up sd)) (y := .int .i64 (dn sd)) _ _
        have k12 : Blk w11 g12 31 [.int .i64 (up sx), .int .i64 (dn sx)] := by rw [hw11]; exact ((K12.out.below b10).others n1).others n2
        have k14 : Blk w11 gB 31 [.int .i64 (up d), .int .i64 (dn d)] := by rw [hw11]; exact ((K14.out.below b10).others n3).others n4
        have b11 : Below w6.heap.size w6 w11 := by rw [hw11]; exact ((B9.out.trans (b10.mono B9.out.size)).setCell (by show w6.heap.size ≤ g11; exact z11) _).setCell (by show w6.heap.size ≤ g11; exact z11) _
        have c1 := CX.out k hlt _ (R0.out.below b11)
        rw [Nat.zero_add, HXK.out] at c1
        have K11 := Lib.hid k11
        have K12 := Lib.hid k12
        have B11 := Lib.hid b11
        clear hw11 q11 q1 q2 q3 q4 b10 s1 s2 s3 s4 n1 n2 n3 n4 k11 b11
        clear K14
        obtain ⟨ι', W, hW0, hWm, hWb⟩ := good_worlds w11
        have hWn : Nonempty ι' := hW0.elim fun i _ => ⟨i⟩
        have v1 : ∀ i, (W i).cell? ⟨g1, k, none⟩ = some (.int .i64 x) := fun i => keepC (hWb i) c1
        have v2 : ∀ i, (W i).cell? ⟨gB, 0, none⟩ = some (.int .i64 (up d)) := fun i => (k14.below (hWb i)).cell (j := 0) rfl
        have v3 : ∀ i, (W i).cell? ⟨gB, 1, none⟩ = some (.int .i64 (dn d)) := fun i => (k14.below (hWb i)).cell (j := 1) rfl
        have v4 : ∀ i, (W i).cell? ⟨g12, 0, none⟩ = some (.int .i64 (up sx)) := fun i => (k12.below (hWb i)).cell (j := 0) rfl
        have v5 : ∀ i, (W i).cell? ⟨g12, 1, none⟩ = some (.int .i64 (dn sx)) := fun i => (k12.below (hWb i)).cell (j := 1) rfl
        have v6 : ∀ i, (W i).frozen? ⟨g12, 0, none⟩ = false := fun i => (k12.below (hWb i)).frozen 0
        have v7 : ∀ i, (W i).frozen? ⟨g12, 1, none⟩ = false := fun i => (k12.below (hWb i)).frozen 1
        clear k12 k14
        (refine region_quiet_tail (C := fun w' => ∃ i, w' = W i) 9 (by kernel_rfl) (by kernel_rfl) hW0 ?_; simp only [List.take_succ_cons, List.take_zero, List.drop_succ_cons, List.drop_zero]; (repeat (go_big_quiet_step (first
          | (go_at_call 28; exact (FW.out _).mono fun e w'' h => ⟨h.1, hWm _ _ h.2⟩)
          | (go_at_call 31; exact (TW.out _).mono fun e w'' h => ⟨h.1, hWm _ _ h.2⟩)
          | (go_at_call 30; exact (PX'.out _).mono fun e w'' h => ⟨h.1, hWm _ _ h.2⟩)))); refine wpQuiet_nil ?_; rintro _ ⟨iw, rfl⟩)
        go_wp2_with fail
        go_roundw
        case rel =>
          refine ⟨k + 1, by omega, by go_num, ?_, ?_, ?_⟩
          · rw [HSD.out]
            exact ((K11.out.below (hWb iw)).others (show g12 ≠ g11 by omega)).others (show g12 ≠ g11 by omega)
          · rw [HSX.out]
            exact (K12.out.below (hWb iw)).two (x := .int .i64 (up sx)) (y := .int .i64 (dn sx)) _ _
          · exact ((B11.out.trans ((hWb iw).mono B11.out.size)).setCell (show w6.heap.size ≤ g12 by omega) _).setCell (show w6.heap.size ≤ g12 by omega) _
        case measure => simp [intOf]; omega
      · obtain rfl : k = m := by omega
        have q1 := K11.out.cell (j := 0) rfl
        have q2 := K12.out.cell (j := 0) rfl
        rw [LZ.out.1] at q1
        rw [LZ.out.2] at q2
        rw [u0] at q1 q2
        have B10 := Lib.hid (B6.out.trans (BR.out.mono B6.out.size))
        clear K11 K12 BR LZ
        go_wp2_with fail
        go_ret
        exact ⟨rfl, B10.out⟩

set_option maxHeartbeats 400000 in
theorem FnSquareLine_long (ad : Option Addr) (n c : Nat) (w : World) (h : 1048576 < n) (h1 : n ≤ 9223372036854775807) :
    Calls Try.prog 6 #[.slice ad n c] w fun e w' => e = .returned (.bool true) ∧ Below w.heap.size w w' := by
  go_enter Try.func6, Try.ntmps6
  go_wp2_with fail
  go_ret
  exact ⟨rfl, Below.refl _ _⟩

end Go.Proofs.Ytoioafadenniiaa
