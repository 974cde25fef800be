/- The nearest line through two points: spec.NearLine. -/
import Derived.Test.YtoioafadenniiaaNearLI
import Derived.Test.YtoioafadenniiaaOvers
namespace Go.Proofs.Ytoioafadenniiaa
open Go.RowKit

/-- The three boxes of what is kept. -/
def nlc (f : Nat → Nat → Rat) (o : Option (Nat × Nat)) : List Value :=
  match o with
  | none => [.int .i64 0, .int .i64 0]
  | some p => [.int .i64 (up (f p.1 p.2)), .int .i64 (dn (f p.1 p.2))]

set_option maxHeartbeats 4000000 in
theorem snear_no (b o c b' o' c' : Nat) (xs ys : List Int) (w : World) (h : RowI w b o xs) (h' : RowI w b' o' ys) (hm : xs.length ≤ 1099511627776) (hm' : ys.length ≤ 1099511627776) (hc : clB xs ys = false) :
    Calls Try.prog 39 #[.slice (some ⟨b, o, none⟩) xs.length c, .slice (some ⟨b', o', none⟩) ys.length c'] w
      fun e w' => e = .returned (.tuple #[.agg #[.int .i64 0, .int .i64 0], .agg #[.int .i64 0, .int .i64 0], .agg #[.int .i64 0, .int .i64 0], .bool false]) ∧ Below w.heap.size w w' := by
  have CV := Lib.hid (fun w h h' => hc ▸ svalidCloud_any b o c b' o' c' xs ys w h h' hm hm')
  have H := Lib.hid h
  have H' := Lib.hid h'
  clear h h' hc
  go_enter Try.func39, Try.ntmps39
  go_upto_region 1 with fail
  refine wp_abstract (fun W => Blk W w.heap.size 31 [.int .i64 0, .int .i64 0] ∧ Blk W (w.heap.size + 1) 31 [.int .i64 0, .int .i64 0] ∧ Blk W (w.heap.size + 1 + 1) 31 [.int .i64 0, .int .i64 0] ∧ Below w.heap.size w W)
    ⟨((Blk.made' _ rfl rfl).allocs _).allocs _, (Blk.made' _ (by simp) rfl).allocs _, Blk.made' _ (by simp) rfl, by (repeat' (first | (with_reducible exact Below.refl _ _) | (with_reducible assumption) | (with_reducible refine Below.drewN ?_ _) | (with_reducible refine Below.alloc ?_ ?_ _) | (with_reducible refine Below.drew ?_) | (with_reducible refine Below.setCell ?_ ?_ _) | (with_reducible refine Below.trans ?_ (Below.mono (by assumption) ?_)) | go_size | (with_reducible refine Nat.le_trans ?_ (Below.size (by assumption)))))⟩ ?_
  rintro W0 ⟨hk4, hk5, hk6, hb⟩
  have K4 := Lib.hid hk4
  have K5 := Lib.hid hk5
  have K6 := Lib.hid hk6
  have hz := hb.size
  clear hk4 hk5 hk6
  go_wp2_with (go_at_call 46; refine (CV.out _ (H.out.below hb) (H'.out.below hb)).mono ?_; rintro e w1 ⟨rfl, hb1⟩; have k4 := K4.out.below hb1; have k5 := K5.out.below hb1; have k6 := K6.out.below hb1; have c40 := k4.cell (j := 0) rfl; have c41 := k4.cell (j := 1) rfl; have f40 := k4.frozen 0; have f41 := k4.frozen 1; have c50 := k5.cell (j := 0) rfl; have c51 := k5.cell (j := 1) rfl; have f50 := k5.frozen 0; have f51 := k5.frozen 1; have c60 := k6.cell (j := 0) rfl; have c61 := k6.cell (j := 1) rfl; have f60 := k6.frozen 0; have f61 := k6.frozen 1)
  refine bodyPost_ret (v := .tuple #[.agg #[.int .i64 0, .int .i64 0], .agg #[.int .i64 0, .int .i64 0], .agg #[.int .i64 0, .int .i64 0], .bool false]) ?_ rfl ⟨rfl, ?_⟩
  · simp [results, Try.results39, go_sem, c40, c41, c50, c51, c60, c61]
  · have b1 := hb.trans (hb1.mono hz)
    exact (((((b1.setCell (Nat.le_refl _) _).setCell (Nat.le_refl _) _).setCell (by simp) _).setCell (by simp) _).setCell (by simp; omega) _).setCell (by simp; omega) _

set_option maxHeartbeats 16000000 in
set_option maxRecDepth 100000 in
theorem snear_yes (b o c b' o' c' : Nat) (xs ys : List Int) (w : World) (p : Nat × Nat) (h : RowI w b o xs) (h' : RowI w b' o' ys) (hc : Cl xs ys) (hcb : clB xs ys = true) (hp : nlI xs ys xs.length = some p) :
    Calls Try.prog 39 #[.slice (some ⟨b, o, none⟩) xs.length c, .slice (some ⟨b', o', none⟩) ys.length c'] w
      fun e w' => e = .returned (.tuple #[.agg #[.int .i64 (up (slR xs ys p.1 p.2)), .int .i64 (dn (slR xs ys p.1 p.2))], .agg #[.int .i64 (up (nhR xs ys p.1 p.2)), .int .i64 (dn (nhR xs ys p.1 p.2))], .agg #[.int .i64 (up (nfR xs ys p.1 p.2)), .int .i64 (dn (nfR xs ys p.1 p.2))], .bool true]) ∧ Below w.heap.size w w' := by
  have hl : ys.length = xs.length := hc.pl.ne
  have n7 := hc.pl.nm
  have HP := Lib.hid hc.pl
  have CV := Lib.hid (fun w h h' => hcb ▸ svalidCloud_any b o c b' o' c' xs ys w h h' (by omega) (by omega))
  have H := Lib.hid h
  have H' := Lib.hid h'
  have NB := Lib.hid (fun i hi => (nlI_best xs ys i hi).1)
  have NK := Lib.hid (fun i k (hi : i ≤ xs.length) (hk : k ≤ xs.length) => (nlK_best (i := i) (nlI_best xs ys i hi) k hk).1)
  obtain ⟨n, hn⟩ : ∃ n, xs.length = n := ⟨_, rfl⟩
  have hn' : ys.length = n := by omega
  have HN := Lib.hid hn
  obtain ⟨q0, hq0⟩ : ∃ q, qd 0 1 = q := ⟨_, rfl⟩
  have E0 := Lib.hid (show q0 = 0 by rw [← hq0, qd_i]; rfl)
  have F0 := Lib.hid (fun w => sfrac_as 0 1 q0 hq0 w (by omega) (by omega) (by omega) (by omega) (by omega))
  have CX := Lib.hid (fun k (hk : k < n) w (h : RowI w b o xs) => h.cell k (by omega))
  have CY := Lib.hid (fun k (hk : k < n) w (h : RowI w b' o' ys) => h.cell k (by omega))
  have BX := Lib.hid (fun k (hk : k < n) => hc.pl.x k (by omega))
  have BY := Lib.hid (fun k (hk : k < n) => hc.pl.y k (by omega))
  rw [hn] at CV n7 NB NK hp ⊢
  rw [hn'] at CV ⊢
  have HPP := Lib.hid hp
  clear h h' hc hcb hl hn hn' hp hq0
  obtain ⟨u1, hu1⟩ : ∃ u, up (slR xs ys p.1 p.2) = u := ⟨_, rfl⟩
  obtain ⟨u2, hu2⟩ : ∃ u, dn (slR xs ys p.1 p.2) = u := ⟨_, rfl⟩
  obtain ⟨u3, hu3⟩ : ∃ u, up (nhR xs ys p.1 p.2) = u := ⟨_, rfl⟩
  obtain ⟨u4, hu4⟩ : ∃ u, dn (nhR xs ys p.1 p.2) = u := ⟨_, rfl⟩
  obtain ⟨u5, hu5⟩ : ∃ u, up (nfR xs ys p.1 p.2) = u := ⟨_, rfl⟩
  obtain ⟨u6, hu6⟩ : ∃ u, dn (nfR xs ys p.1 p.2) = u := ⟨_, rfl⟩
  rw [hu1, hu2, hu3, hu4, hu5, hu6]
  have HU1 := Lib.hid hu1
  have HU2 := Lib.hid hu2
  have HU3 := Lib.hid hu3
  have HU4 := Lib.hid hu4
  have HU5 := Lib.hid hu5
  have HU6 := Lib.hid hu6
  clear hu1 hu2 hu3 hu4 hu5 hu6
  go_enter Try.func39, Try.ntmps39
  go_upto_region 1 with fail
  refine wp_abstract (fun W => Blk W w.heap.size 31 [.int .i64 0, .int .i64 0] ∧ Blk W (w.heap.size + 1) 31 [.int .i64 0, .int .i64 0] ∧ Blk W (w.heap.size + 1 + 1) 31 [.int .i64 0, .int .i64 0] ∧ Below w.heap.size w W)
    ⟨((Blk.made' _ rfl rfl).allocs _).allocs _, (Blk.made' _ (by simp) rfl).allocs _, Blk.made' _ (by simp) rfl, by (repeat' (first | (with_reducible exact Below.refl _ _) | (with_reducible assumption) | (with_reducible refine Below.drewN ?_ _) | (with_reducible refine Below.alloc ?_ ?_ _) | (with_reducible refine Below.drew ?_) | (with_reducible refine Below.setCell ?_ ?_ _) | (with_reducible refine Below.trans ?_ (Below.mono (by assumption) ?_)) | go_size | (with_reducible refine Nat.le_trans ?_ (Below.size (by assumption)))))⟩ ?_
  rintro W0 ⟨hk4, hk5, hk6, hb⟩
  have K4 := Lib.hid hk4
  have K5 := Lib.hid hk5
  have K6 := Lib.hid hk6
  have B0 := Lib.hid hb
  have hz := hb.size
  have l6 := hk6.lt
  clear hk4 hk5 hk6 hb
  go_upto_region 4 with (go_at_call 46; refine (CV.out _ (H.out.below B0.out) (H'.out.below B0.out)).mono ?_; rintro e w1 ⟨rfl, hb1⟩)
  obtain ⟨g8, hg8⟩ : ∃ g, w1.heap.size = g := ⟨_, rfl⟩
  rw [hg8]
  have z1 := hb1.size
  obtain ⟨g9, hg9⟩ : ∃ g, g = g8 + 1 := ⟨_, rfl⟩
  obtain ⟨g10, hg10⟩ : ∃ g, g = g8 + 1 + 1 := ⟨_, rfl⟩
  rw [show g8 + 1 = g9 from hg9.symm, show g9 + 1 = g10 from by rw [hg10, hg9]]
  refine wp_abstract (fun W => Blk W g8 31 (nlc (slR xs ys) none) ∧ Blk W g9 31 (nlc (nhR xs ys) none) ∧ Blk W g10 31 (nlc (nfR xs ys) none) ∧ W0.heap.size ≤ g8 ∧ Below W0.heap.size W0 W) ⟨?_, ?_, ?_, by omega, by (repeat' (first | (with_reducible exact Below.refl _ _) | (with_reducible assumption) | (with_reducible refine Below.drewN ?_ _) | (with_reducible refine Below.alloc ?_ ?_ _) | (with_reducible refine Below.drew ?_) | (with_reducible refine Below.setCell ?_ ?_ _) | (with_reducible refine Below.trans ?_ (Below.mono (by assumption) ?_)) | go_size | (with_reducible refine Nat.le_trans ?_ (Below.size (by assumption)))))⟩ ?_
  · exact ((Blk.made' _ hg8.symm rfl).allocs _).allocs _
  · exact (Blk.made' _ (by simp [hg8, hg9]) rfl).allocs _
  · exact Blk.made' _ (by simp [hg8, hg10]) rfl
  rintro W1 ⟨k8, k9, k10, z8, b1⟩
  have z9 : W0.heap.size ≤ g9 := by omega
  have z10 : W0.heap.size ≤ g10 := by omega
  have K8 := Lib.hid k8
  have K9 := Lib.hid k9
  have K10 := Lib.hid k10
  have D98 : g9 ≠ g8 := by omega
  have D108 : g10 ≠ g8 := by omega
  have D109 : g10 ≠ g9 := by omega
  have D89 : g8 ≠ g9 := by omega
  have D810 : g8 ≠ g10 := by omega
  have D910 : g9 ≠ g10 := by omega
  have B1 := Lib.hid b1
  clear k8 k9 k10 b1 hb1 hg8 hg9 hg10 z1
  go_wp2_with fail
  go_loopw [11] (fun v11 wr => ∃ i : Nat, i ≤ n ∧ v11 = .int .i64 i ∧ Blk wr g8 31 (nlc (slR xs ys) (nlI xs ys i)) ∧ Blk wr g9 31 (nlc (nhR xs ys) (nlI xs ys i)) ∧ Blk wr g10 31 (nlc (nfR xs ys) (nlI xs ys i)) ∧ Below W0.heap.size W0 wr) (fun v11 _ => n - (intOf v11).toNat)
  case atStart => exact ⟨0, Nat.zero_le _, rfl, K8.out, K9.out, K10.out, B1.out⟩
  case round =>
    clear K8 K9 K10 B1
    obtain ⟨i, hi, rfl, hk8, hk9, hk10, hb⟩ := hrel
    have K8 := Lib.hid hk8
    have K9 := Lib.hid hk9
    have K10 := Lib.hid hk10
    clear hk9 hk10
    have B1 := Lib.hid hb
    have zr := hb.size
    clear hk8 hb
    by_cases hlt : i < n
    · go_wp2_with fail
      obtain ⟨oi, hoi⟩ : ∃ oi, nlI xs ys i = oi := ⟨_, rfl⟩
      have HOI := Lib.hid hoi
      rw [hoi] at K8 K9 K10
      have ST := Lib.hid (nlK_start xs ys i oi)
      go_loopw [12] (fun v12 wr => ∃ k : Nat, i < k ∧ k ≤ n ∧ v12 = .int .i64 k ∧ Blk wr g8 31 (nlc (slR xs ys) (nlK xs ys i oi k)) ∧ Blk wr g9 31 (nlc (nhR xs ys) (nlK xs ys i oi k)) ∧ Blk wr g10 31 (nlc (nfR xs ys) (nlK xs ys i oi k)) ∧ Below W0.heap.size W0 wr) (fun v12 _ => n - (intOf v12).toNat)
      case atStart => exact ⟨i + 1, by omega, by omega, by go_num, by rw [ST.out]; exact K8.out, by rw [ST.out]; exact K9.out, by rw [ST.out]; exact K10.out, B1.out⟩
      case round =>
        clear K8 K9 K10 B1 zr hoi
        obtain ⟨k, hik, hk, rfl, hk8, hk9, hk10, hb⟩ := hrel
        have K8 := Lib.hid hk8
        have K9 := Lib.hid hk9
        have K10 := Lib.hid hk10
        clear hk9 hk10
        have B1 := Lib.hid hb
        have zr := hb.size
        clear hk8 hb
        by_cases hltk : k < n
        · obtain ⟨wo, rfl⟩ : ∃ wo : World, wo = wr := ⟨_, rfl⟩
          have R1 := Lib.hid (H.out.below (B0.out.trans (B1.out.mono hz)))
          have R2 := Lib.hid (H'.out.below (B0.out.trans (B1.out.mono hz)))
          have c1 := CX.out i hlt _ R1.out
          have c2 := CX.out k hltk _ R1.out
          have bx1 := BX.out i hlt
          have bx2 := BX.out k hltk
          obtain ⟨x1, hx1⟩ : ∃ x, gi xs i = x := ⟨_, rfl⟩
          obtain ⟨x2, hx2⟩ : ∃ x, gi xs k = x := ⟨_, rfl⟩
          rw [hx1] at c1 bx1
          rw [hx2] at c2 bx2
          have HX1 := Lib.hid hx1
          have HX2 := Lib.hid hx2
          clear hx1 hx2
          by_cases hxx : x1 = x2
          · have t1 : (x1 == x2) = true := by simp [hxx]
            have SK := Lib.hid (nlK_same (ys := ys) (o := oi) hik (show gi xs i = gi xs k by rw [HX1.out, HX2.out]; exact hxx))
            clear hxx
            go_wp2_with fail
            go_quiet (fail)
            go_wp2_with fail
            go_roundw
            case rel => exact ⟨k + 1, by omega, by omega, by go_num, by rw [SK.out]; exact K8.out.below (Below.drewN (Below.refl _ _) _), by rw [SK.out]; exact K9.out.below (Below.drewN (Below.refl _ _) _), by rw [SK.out]; exact K10.out.below (Below.drewN (Below.refl _ _) _), Below.drewN B1.out _⟩
            case measure => simp [intOf]; omega
          · have t1 : (x1 == x2) = false := by simpa using hxx
            have hne : gi xs i ≠ gi xs k := by rw [HX1.out, HX2.out]; exact hxx
            have NX := Lib.hid (nlK_next (ys := ys) (o := oi) hik hne)
            have NP := Lib.hid (show NPair xs i k from ⟨hik, by rw [HN.out]; exact hltk, hne⟩)
            have NKK := Lib.hid (HOI.out ▸ NK.out i k (by omega) (by omega))
            obtain ⟨q, hq⟩ : ∃ q, nlK xs ys i oi k = q := ⟨_, rfl⟩
            rw [hq] at K8 K9 K10 NX NKK
            have bd := nl_bd HP.out (i := i) (k := k) (by rw [HN.out]; exact hlt) (by rw [HN.out]; exact hltk) hne
            obtain ⟨sl, hsl⟩ : ∃ q, slR xs ys i k = q := ⟨_, rfl⟩
            obtain ⟨ht, hht⟩ : ∃ q, nhR xs ys i k = q := ⟨_, rfl⟩
            have HSL := Lib.hid hsl
            have HHT := Lib.hid hht
            obtain ⟨b1, b2, b3, b4, b5, b6⟩ := bd
            rw [hsl] at b1 b2 b4 b5 b6
            rw [hht] at b3 b4 b5 b6
            have c3 := CY.out i hlt _ R2.out
            have c4 := CY.out k hltk _ R2.out
            have by1 := BY.out i hlt
            have by2 := BY.out k hltk
            have hsl' : qd (gi ys k - gi ys i) (gi xs k - gi xs i) = sl := by rw [← hsl, slR_comm hne]; rfl
            obtain ⟨y1, hy1⟩ : ∃ x, gi ys i = x := ⟨_, rfl⟩
            obtain ⟨y2, hy2⟩ : ∃ x, gi ys k = x := ⟨_, rfl⟩
            rw [hy1] at c3 by1
            rw [hy2] at c4 by2
            rw [hy1, hy2, HX1.out, HX2.out] at hsl'
            have s0 : Sm 0 1 q0 := by rw [E0.out]; exact ⟨by decide, by decide, by decide⟩
            have hh2 : qd y1 1 - (sl * qd x1 1 + q0) = ht := by rw [E0.out, ← hht, ← HX1.out, ← hy1, ← hsl]; unfold nhR; grind
            have FSL := Lib.hid (fun w => sfrac_as (y2 - y1) (x2 - x1) sl hsl' w (by omega) (by omega) (by omega) (by omega) (by omega))
            have O1 := Lib.hid (fun w => sover_any x1 y1 sl q0 _ _ ht 24 24 0 1 w bx1 by1 rfl rfl hh2 b1 s0 (by omega) (by omega) (by omega) (by omega) (by omega))
            have S1 := Lib.hid b1
            have S3 := Lib.hid b3
            have S5 := Lib.hid b5
            have S6 := Lib.hid b6
            have q1 : IntKind.i64.wrap (y2 - y1) = y2 - y1 := IntWalk.i64_in _ (by omega)
            have q2 : IntKind.i64.wrap (x2 - x1) = x2 - x1 := IntWalk.i64_in _ (by omega)
            clear hxx hne hq b1 b2 b3 b4 b5 b6 hsl hht hy1 hy2 hsl' s0 hh2 by1 by2 bx1 bx2
            go_wp2_with fail
            go_quiet (fail)
            go_upto_region 11 with fail
            refine wp_abstract (fun W => Below wo.heap.size wo W) (Below.drewN (Below.refl _ _) _) ?_
            intro w5 hb5
            have z5 := hb5.size
            have R1 := Lib.hid (R1.out.below hb5)
            have R2 := Lib.hid (R2.out.below hb5)
            have K8 := Lib.hid (K8.out.below hb5)
            have K9 := Lib.hid (K9.out.below hb5)
            have K10 := Lib.hid (K10.out.below hb5)
            have B5 := Lib.hid (B1.out.trans (hb5.mono zr))
            have z5' := B5.out.size
            have l8 := K8.out.lt
            have l9 := K9.out.lt
            have l10 := K10.out.lt
            have c1 := keepC hb5 c1
            have c2 := keepC hb5 c2
            have c3 := keepC hb5 c3
            have c4 := keepC hb5 c4
            clear hb5
            (refine region_box_tail 19 (by kernel_rfl) (by kernel_rfl) rfl allocF ?_; intro WB gB hWB hgB; obtain ⟨ι, W, hCW, hWn, hWm, hWb⟩ := cl_worlds WB; rw [hCW])
            have v1 : ∀ i', (W i').cell? ⟨b, o + i, none⟩ = some (.int .i64 x1) := fun i => keepC (hWb i) (keepC hWB c1)
            have v2 : ∀ i', (W i').cell? ⟨b, o + k, none⟩ = some (.int .i64 x2) := fun i => keepC (hWb i) (keepC hWB c2)
            have v3 : ∀ i', (W i').cell? ⟨b', o' + i, none⟩ = some (.int .i64 y1) := fun i => keepC (hWb i) (keepC hWB c3)
            have v4 : ∀ i', (W i').cell? ⟨b', o' + k, none⟩ = some (.int .i64 y2) := fun i => keepC (hWb i) (keepC hWB c4)
            (simp only [Act.put, List.setIfInBounds_toArray, List.set_cons_zero, List.set_cons_succ, List.take_succ_cons, List.take_zero]; (repeat (go_big_quiet_step ((go_at_call 47; exact (FSL.out _).mono fun e w'' h => ⟨h.1, hWm _ _ h.2⟩)))); refine wpQuiet_nil ?_; rintro _ ⟨iw, rfl⟩ hkB)
            have a0 := hkB.cell (j := 0) rfl
            have a1 := hkB.cell (j := 1) rfl
            have a2 := hkB.frozen 0
            have a3 := hkB.frozen 1
            have lB := hkB.lt
            go_upto_region 12 with fail
            have hbW := hWB.trans ((hWb iw).mono hWB.size)
            obtain ⟨g13, hg13⟩ : ∃ g, g = gB := ⟨_, rfl⟩
            rw [← hg13] at hkB a0 a1 a2 a3 lB hgB ⊢
            refine wp_abstract (fun W => Blk W g13 31 [.int .i64 (up sl), .int .i64 (dn sl)] ∧ Below w5.heap.size w5 W)
              ⟨hkB.two (x := .int .i64 0) (y := .int .i64 0) _ _, (hbW.setCell (by show w5.heap.size ≤ g13; exact hgB) _).setCell (by show w5.heap.size ≤ g13; exact hgB) _⟩ ?_
            rintro w7 ⟨k13, b7⟩
            have z7 := b7.size
            have c1 := keepC b7 c1
            have c3 := keepC b7 c3
            have K13 := Lib.hid k13
            have K8 := Lib.hid (K8.out.below b7)
            have K9 := Lib.hid (K9.out.below b7)
            have K10 := Lib.hid (K10.out.below b7)
            have R1 := Lib.hid (R1.out.below b7)
            have R2 := Lib.hid (R2.out.below b7)
            have B7 := Lib.hid (B5.out.trans (b7.mono (by omega)))
            have d1 := k13.cell (j := 0) rfl
            have d2 := k13.cell (j := 1) rfl
            have lk13 := k13.lt
            clear hg13 hkB a0 a1 a2 a3 lB hbW hWB v1 v2 v3 v4 hWb hWm hCW hWn k13 b7 c2 c4 B5
            clear iw W
            (refine region_box_tail 11 (by kernel_rfl) (by kernel_rfl) rfl allocF ?_; intro WB gB hWB hgB; obtain ⟨ι, W, hCW, hWn, hWm, hWb⟩ := cl_worlds WB; rw [hCW])
            have v1 : ∀ i', (W i').cell? ⟨b, o + i, none⟩ = some (.int .i64 x1) := fun i => keepC (hWb i) (keepC hWB c1)
            have v2 : ∀ i', (W i').cell? ⟨b', o' + i, none⟩ = some (.int .i64 y1) := fun i => keepC (hWb i) (keepC hWB c3)
            have v3 : ∀ i, (W i).cell? ⟨g13, 0, none⟩ = some (.int .i64 (up sl)) := fun i => keepC (hWb i) (keepC hWB d1)
            have v4 : ∀ i, (W i).cell? ⟨g13, 1, none⟩ = some (.int .i64 (dn sl)) := fun i => keepC (hWb i) (keepC hWB d2)
            (simp only [Act.put, List.setIfInBounds_toArray, List.set_cons_zero, List.set_cons_succ, List.take_succ_cons, List.take_zero]; (repeat (go_big_quiet_step (first
              | (go_at_call 47; exact (F0.out _).mono fun e w'' h => ⟨h.1, hWm _ _ h.2⟩)
              | (go_at_call 75; exact (O1.out _).mono fun e w'' h => ⟨h.1, hWm _ _ h.2⟩)))); refine wpQuiet_nil ?_; rintro _ ⟨iw, rfl⟩ hkB)
            have a0 := hkB.cell (j := 0) rfl
            have a1 := hkB.cell (j := 1) rfl
            have a2 := hkB.frozen 0
            have a3 := hkB.frozen 1
            have lB := hkB.lt
            go_upto_region 13 with fail
            have hbW := hWB.trans ((hWb iw).mono hWB.size)
            obtain ⟨g14, hg14⟩ : ∃ g, g = gB := ⟨_, rfl⟩
            rw [← hg14] at hkB a0 a1 a2 a3 lB hgB ⊢
            refine wp_abstract (fun W => Blk W g14 31 [.int .i64 (up ht), .int .i64 (dn ht)] ∧ Below w7.heap.size w7 W)
              ⟨hkB.two (x := .int .i64 0) (y := .int .i64 0) _ _, (hbW.setCell (by show w7.heap.size ≤ g14; exact hgB) _).setCell (by show w7.heap.size ≤ g14; exact hgB) _⟩ ?_
            rintro w9 ⟨k14, b9⟩
            have z9' := b9.size
            have K14 := Lib.hid k14
            have K13 := Lib.hid (K13.out.below b9)
            have K8 := Lib.hid (K8.out.below b9)
            have K9 := Lib.hid (K9.out.below b9)
            have K10 := Lib.hid (K10.out.below b9)
            have R1 := Lib.hid (R1.out.below b9)
            have R2 := Lib.hid (R2.out.below b9)
            have B9 := Lib.hid (B7.out.trans (b9.mono (by omega)))
            have lk14 := k14.lt
            clear hg14 hkB a0 a1 a2 a3 lB hbW hWB v1 v2 v3 v4 hWb hWm hCW hWn k14 b9 c1 c3 d1 d2 B7
            clear iw W
            go_upto_region 14 with (go_at_call 47; refine (F0.out _).mono ?_; rintro e w10 ⟨rfl, hb10⟩)
            obtain ⟨g15, hg15⟩ : ∃ g, w10.heap.size = g := ⟨_, rfl⟩
            rw [hg15]
            have zz10 := hb10.size
            have zz9 := B9.out.size
            refine wp_abstract (fun W => Blk W g15 31 [.int .i64 (up q0), .int .i64 (dn q0)] ∧ W0.heap.size ≤ g15 ∧ g14 < g15 ∧ w9.heap.size ≤ g15 ∧ Below w9.heap.size w9 W) ⟨Blk.made' _ hg15.symm rfl, by omega, by omega, by omega, by (repeat' (first | (with_reducible exact Below.refl _ _) | (with_reducible assumption) | (with_reducible refine Below.drewN ?_ _) | (with_reducible refine Below.alloc ?_ ?_ _) | (with_reducible refine Below.drew ?_) | (with_reducible refine Below.setCell ?_ ?_ _) | (with_reducible refine Below.trans ?_ (Below.mono (by assumption) ?_)) | go_size | (with_reducible refine Nat.le_trans ?_ (Below.size (by assumption)))))⟩ ?_
            rintro w11 ⟨k15, l15, lB15, l915, b11⟩
            have z11 := b11.size
            have K15 := Lib.hid k15
            have B11 := Lib.hid b11
            clear hg15 k15 b11 hb10 zz10
            obtain ⟨f, hf⟩ : ∃ f, f = nsR xs ys sl ht := ⟨_, rfl⟩
            have FZ := Lib.hid (show f 0 = q0 by rw [hf, E0.out]; rfl)
            have FS := Lib.hid (fun j => show f j + szR (ofR xs ys sl ht j) = f (j + 1) by rw [hf]; rfl)
            have FM := Lib.hid (fun j (hj : j ≤ n) => (show Sm 8064 24 (f j) by rw [hf]; exact S6.out j (by rw [HN.out]; exact hj)))
            have FE := Lib.hid (show f n = nfR xs ys i k by rw [hf, ← HN.out, ← HSL.out, ← HHT.out]; rfl)
            clear hf
            go_wp2_with fail
            go_loopw [16] (fun v16 wr => ∃ j : Nat, j ≤ n ∧ v16 = .int .i64 j ∧ Blk wr g15 31 [.int .i64 (up (f j)), .int .i64 (dn (f j))] ∧ Below w9.heap.size w9 wr) (fun v16 _ => n - (intOf v16).toNat)
            case atStart => exact ⟨0, Nat.zero_le _, rfl, by rw [FZ.out]; exact K15.out, B11.out⟩
            case round =>
              clear K15 B11 z11
              obtain ⟨j, hj, rfl, hk15, hb⟩ := hrel
              have K15 := Lib.hid hk15
              have B11 := Lib.hid hb
              have z11 := hb.size
              have l15' := hk15.lt
              clear hk15 hb
              by_cases hltj : j < n
              · obtain ⟨wo', rfl⟩ : ∃ wo : World, wo = wr := ⟨_, rfl⟩
                have c1 := CX.out j hltj _ (R1.out.below B11.out)
                have c2 := CY.out j hltj _ (R2.out.below B11.out)
                have bx := BX.out j hltj
                have by1 := BY.out j hltj
                have s5 := S5.out j (by rw [HN.out]; exact hltj)
                have s6 := FM.out j hj
                have e1 := FS.out j
                obtain ⟨x, hx⟩ : ∃ x, gi xs j = x := ⟨_, rfl⟩
                obtain ⟨y, hy⟩ : ∃ x, gi ys j = x := ⟨_, rfl⟩
                rw [hx] at c1 bx
                rw [hy] at c2 by1
                obtain ⟨u3, hu3⟩ : ∃ q, ofR xs ys sl ht j = q := ⟨_, rfl⟩
                rw [hu3] at s5 e1
                have hu3' : qd y 1 - (sl * qd x 1 + ht) = u3 := by rw [← hu3, ← hx, ← hy]; rfl
                obtain ⟨u4, hu4⟩ : ∃ q, szR u3 = q := ⟨_, rfl⟩
                rw [hu4] at e1
                have s7 : Sm 1152 24 u4 := hu4 ▸ sm_sz s5
                obtain ⟨fj, hfj⟩ : ∃ q, f j = q := ⟨_, rfl⟩
                rw [hfj] at s6 e1 K15
                obtain ⟨fj', hfj'⟩ : ∃ q, f (j + 1) = q := ⟨_, rfl⟩
                rw [hfj'] at e1
                have HFJ := Lib.hid hfj'
                have m4 := sm_mul s6 s7
                have O2 := Lib.hid (fun w => sover_any x y sl ht _ _ u3 24 24 576 24 w bx by1 rfl rfl hu3' S1.out S3.out (by omega) (by omega) (by omega) (by omega) (by omega))
                have Z1 := Lib.hid (fun w => ssize_any u3 u4 hu4 w (by have := s5.1; omega) (by have := s5.2.1; omega))
                have P2 := Lib.hid (fun w => splus_any fj u4 fj' e1 w (by omega) (by omega))
                clear hx hy hu3 hu3' hu4 hfj hfj' m4 s5 s6 s7 e1 bx by1
                go_upto_region 17 with fail
                obtain ⟨ι, W, hW0, hWm, hWb⟩ := good_worlds wo'
                have hWn : Nonempty ι := hW0.elim fun i _ => ⟨i⟩
                have v1 : ∀ i', (W i').cell? ⟨b, o + j, none⟩ = some (.int .i64 x) := fun i => keepC (hWb i) c1
                have v2 : ∀ i', (W i').cell? ⟨b', o' + j, none⟩ = some (.int .i64 y) := fun i => keepC (hWb i) c2
                have KK13 := Lib.hid (fun i => (K13.out.below B11.out).below (hWb i))
                have KK14 := Lib.hid (fun i => (K14.out.below B11.out).below (hWb i))
                have KK15 := Lib.hid (fun i => K15.out.below (hWb i))
                have v3 : ∀ i, (W i).cell? ⟨g13, 0, none⟩ = some (.int .i64 (up sl)) := fun i => (KK13.out i).cell (j := 0) rfl
                have v4 : ∀ i, (W i).cell? ⟨g13, 1, none⟩ = some (.int .i64 (dn sl)) := fun i => (KK13.out i).cell (j := 1) rfl
                have v5 : ∀ i, (W i).cell? ⟨g14, 0, none⟩ = some (.int .i64 (up ht)) := fun i => (KK14.out i).cell (j := 0) rfl
                have v6 : ∀ i, (W i).cell? ⟨g14, 1, none⟩ = some (.int .i64 (dn ht)) := fun i => (KK14.out i).cell (j := 1) rfl
                have v7 : ∀ i, (W i).cell? ⟨g15, 0, none⟩ = some (.int .i64 (up fj)) := fun i => (KK15.out i).cell (j := 0) rfl
                have v8 : ∀ i, (W i).cell? ⟨g15, 1, none⟩ = some (.int .i64 (dn fj)) := fun i => (KK15.out i).cell (j := 1) rfl
                have v9 : ∀ i, (W i).frozen? ⟨g15, 0, none⟩ = false := fun i => (KK15.out i).frozen 0
                have v10 : ∀ i, (W i).frozen? ⟨g15, 1, none⟩ = false := fun i => (KK15.out i).frozen 1
                (refine region_quiet_tail (C := fun w' => ∃ i, w' = W i) 14 (by kernel_rfl) (by kernel_rfl) hW0 ?_; simp only [List.take_succ_cons, List.take_zero, List.drop_succ_cons, List.drop_zero]; (repeat (go_big_quiet_step (first
                  | (go_at_call 75; exact (O2.out _).mono fun e w'' h => ⟨h.1, hWm _ _ h.2⟩)
                  | (go_at_call 66; exact (P2.out _).mono fun e w'' h => ⟨h.1, hWm _ _ h.2⟩)
                  | (go_at_call 76; exact (Z1.out _).mono fun e w'' h => ⟨h.1, hWm _ _ h.2⟩)))); refine wpQuiet_nil ?_; rintro _ ⟨iw, rfl⟩)
                go_wp2_with fail
                go_roundw
                case rel =>
                  refine ⟨j + 1, by omega, by go_num, ?_, ?_⟩
                  · rw [HFJ.out]
                    exact (KK15.out iw).two (x := .int .i64 (up fj)) (y := .int .i64 (dn fj)) _ _
                  · exact ((B11.out.trans ((hWb iw).mono z11)).setCell (by show w9.heap.size ≤ g15; exact l915) _).setCell (by show w9.heap.size ≤ g15; exact l915) _
                case measure => simp [intOf]; omega
              · obtain rfl : j = n := by omega
                rw [FE.out] at K15
                have BB := Lib.hid (B9.out.trans (B11.out.mono zz9))
                have K8 := Lib.hid (K8.out.below B11.out)
                have K9 := Lib.hid (K9.out.below B11.out)
                have K10 := Lib.hid (K10.out.below B11.out)
                have K13 := Lib.hid (K13.out.below B11.out)
                have K14 := Lib.hid (K14.out.below B11.out)
                have e1 := K15.out.cell (j := 0) rfl
                have e2 := K15.out.cell (j := 1) rfl
                have e3 := K13.out.cell (j := 0) rfl
                have e4 := K13.out.cell (j := 1) rfl
                have e5 := K14.out.cell (j := 0) rfl
                have e6 := K14.out.cell (j := 1) rfl
                have f0 := K8.out.frozen 0
                have f1 := K8.out.frozen 1
                have f2 := K9.out.frozen 0
                have f3 := K9.out.frozen 1
                have f4 := K10.out.frozen 0
                have f5 := K10.out.frozen 1
                have N1 : g13 ≠ g8 := by omega
                have N2 : g13 ≠ g9 := by omega
                have N3 : g13 ≠ g10 := by omega
                have N4 : g14 ≠ g8 := by omega
                have N5 : g14 ≠ g9 := by omega
                have N6 : g14 ≠ g10 := by omega
                have N7 : g15 ≠ g8 := by omega
                have N8 : g15 ≠ g9 := by omega
                have N9 : g15 ≠ g10 := by omega
                clear FZ FS FM FE S1 S3 S5 S6 B11
                cases q with
                | none =>
                  have h0 := K8.out.cell (j := 0) rfl
                  have h1 := K8.out.cell (j := 1) rfl
                  have h2 := K9.out.cell (j := 0) rfl
                  have h3 := K9.out.cell (j := 1) rfl
                  have h4 := K10.out.cell (j := 0) rfl
                  have h5 := K10.out.cell (j := 1) rfl
                  go_wp2_with fail
                  go_roundw
                  case rel =>
                    refine ⟨k + 1, by omega, by omega, by go_num, ?_, ?_, ?_, ?_⟩
                    · rw [NX.out]
                      show Blk _ g8 _ (nlc (slR xs ys) (some (i, k)))
                      simp only [nlc, HSL.out]
                      exact ((((K8.out.two (x := .int .i64 0) (y := .int .i64 0) _ _).others D98).others D98).others D108).others D108
                    · rw [NX.out]
                      show Blk _ g9 _ (nlc (nhR xs ys) (some (i, k)))
                      simp only [nlc, HHT.out]
                      exact ((((K9.out.others D89).others D89).two (x := .int .i64 0) (y := .int .i64 0) _ _).others D109).others D109
                    · rw [NX.out]
                      show Blk _ g10 _ (nlc (nfR xs ys) (some (i, k)))
                      simp only [nlc]
                      exact ((((K10.out.others D810).others D810).others D910).others D910).two (x := .int .i64 0) (y := .int .i64 0) _ _
                    · exact (((((BB.out.setCell z8 _).setCell z8 _).setCell z9 _).setCell z9 _).setCell z10 _).setCell z10 _
                  case measure => simp [intOf]; omega
                | some pq =>
                  obtain ⟨t, ht⟩ : ∃ t, decide (nfR xs ys i k < nfR xs ys pq.1 pq.2) = t := ⟨_, rfl⟩
                  have hl2 := nl_less HP.out NP.out (NKK.out pq rfl)
                  obtain ⟨fik, hfik⟩ : ∃ q, nfR xs ys i k = q := ⟨_, rfl⟩
                  obtain ⟨fpq, hfpq⟩ : ∃ q, nfR xs ys pq.1 pq.2 = q := ⟨_, rfl⟩
                  have HFIK := Lib.hid hfik
                  rw [hfik] at hl2 ht e1 e2
                  rw [hfpq] at hl2 ht
                  have LW := Lib.hid (fun w => ht ▸ sless_any fik fpq w hl2.2)
                  have h4 := K10.out.cell (j := 0) (v := .int .i64 (up fpq)) (by rw [← hfpq]; rfl)
                  have h5 := K10.out.cell (j := 1) (v := .int .i64 (dn fpq)) (by rw [← hfpq]; rfl)
                  have NXT := Lib.hid (show nlK xs ys i oi (k + 1) = if t = true then some (i, k) else some pq by
                    rw [NX.out]
                    simp only [nlU]
                    rw [hfik, hfpq, ← ht]
                    simp only [decide_eq_true_eq])
                  have T0 : (dn fpq == 0) = false := by have := dn_pos fpq; simp; omega
                  clear hl2 ht hfik hfpq NX NKK
                  cases t with
                  | false =>
                    go_wp2_with (go_at_call 48; refine (LW.out _).mono ?_; rintro e w15 ⟨rfl, hb15⟩)
                    have z15 := hb15.size
                    go_roundw
                    case rel => exact ⟨k + 1, by omega, by omega, by go_num, by rw [NXT.out]; exact K8.out.below hb15, by rw [NXT.out]; exact K9.out.below hb15, by rw [NXT.out]; exact K10.out.below hb15, BB.out.trans (hb15.mono (by have := BB.out.size; omega))⟩
                    case measure => simp [intOf]; omega
                  | true =>
                    go_wp2_with (go_at_call 48; refine (LW.out _).mono ?_; rintro e w15 ⟨rfl, hb15⟩; have e1 := keepC hb15 e1; have e2 := keepC hb15 e2; have e3 := keepC hb15 e3; have e4 := keepC hb15 e4; have e5 := keepC hb15 e5; have e6 := keepC hb15 e6; have k8 := K8.out.below hb15; have k9 := K9.out.below hb15; have k10 := K10.out.below hb15; have f0 := k8.frozen 0; have f1 := k8.frozen 1; have f2 := k9.frozen 0; have f3 := k9.frozen 1; have f4 := k10.frozen 0; have f5 := k10.frozen 1; have h0 := k8.cell (j := 0) rfl; have h1 := k8.cell (j := 1) rfl; have h2 := k9.cell (j := 0) rfl; have h3 := k9.cell (j := 1) rfl; have h4 := keepC hb15 h4; have h5 := keepC hb15 h5)
                    have B15 := BB.out.trans (hb15.mono (by have := BB.out.size; omega))
                    go_roundw
                    case rel =>
                      refine ⟨k + 1, by omega, by omega, by go_num, ?_, ?_, ?_, ?_⟩
                      · rw [NXT.out]
                        show Blk _ g8 _ (nlc (slR xs ys) (some (i, k)))
                        simp only [nlc, HSL.out]
                        exact (((((k8.set 0 _).set 1 _).others D98).others D98).others D108).others D108
                      · rw [NXT.out]
                        show Blk _ g9 _ (nlc (nhR xs ys) (some (i, k)))
                        simp only [nlc, HHT.out]
                        exact (((((k9.others D89).others D89).set 0 _).set 1 _).others D109).others D109
                      · rw [NXT.out]
                        show Blk _ g10 _ (nlc (nfR xs ys) (some (i, k)))
                        simp only [nlc, HFIK.out]
                        exact (((((k10.others D810).others D810).others D910).others D910).set 0 _).set 1 _
                      · exact (((((B15.setCell z8 _).setCell z8 _).setCell z9 _).setCell z9 _).setCell z10 _).setCell z10 _
                    case measure => simp [intOf]; omega
        · obtain rfl : k = n := by omega
          have DN := Lib.hid (HOI.out ▸ nlI_done xs ys i (k := k) HN.out.symm)
          go_wp2_with fail
          go_roundw
          case rel => exact ⟨i + 1, by omega, by go_num, by rw [← DN.out]; exact K8.out, by rw [← DN.out]; exact K9.out, by rw [← DN.out]; exact K10.out, B1.out⟩
          case measure => simp [intOf]; omega
    · obtain rfl : i = n := by omega
      rw [HPP.out] at K8 K9 K10
      have k4 := K4.out.below B1.out
      have k5 := K5.out.below B1.out
      have k6 := K6.out.below B1.out
      have f40 := k4.frozen 0
      have f41 := k4.frozen 1
      have f50 := k5.frozen 0
      have f51 := k5.frozen 1
      have f60 := k6.frozen 0
      have f61 := k6.frozen 1
      have c40 := k4.cell (j := 0) rfl
      have c41 := k4.cell (j := 1) rfl
      have c50 := k5.cell (j := 0) rfl
      have c51 := k5.cell (j := 1) rfl
      have c60 := k6.cell (j := 0) rfl
      have c61 := k6.cell (j := 1) rfl
      have h0 := K8.out.cell (j := 0) rfl
      have h1 := K8.out.cell (j := 1) rfl
      have h2 := K9.out.cell (j := 0) rfl
      have h3 := K9.out.cell (j := 1) rfl
      have h4 := K10.out.cell (j := 0) rfl
      have h5 := K10.out.cell (j := 1) rfl
      have BB := Lib.hid (B0.out.trans (B1.out.mono hz))
      have n1 : g8 ≠ w.heap.size := by omega
      have n2 : g8 ≠ w.heap.size + 1 := by omega
      have n3 : g8 ≠ w.heap.size + 1 + 1 := by omega
      have n4 : g9 ≠ w.heap.size := by omega
      have n5 : g9 ≠ w.heap.size + 1 := by omega
      have n6 : g9 ≠ w.heap.size + 1 + 1 := by omega
      have n7' : g10 ≠ w.heap.size := by omega
      have n8 : g10 ≠ w.heap.size + 1 := by omega
      have n9 : g10 ≠ w.heap.size + 1 + 1 := by omega
      rw [HU1.out] at h0
      rw [HU2.out] at h1
      rw [HU3.out] at h2
      rw [HU4.out] at h3
      rw [HU5.out] at h4
      rw [HU6.out] at h5
      clear k4 k5 k6 K8 K9 K10 B1 K4 K5 K6
      go_upto_region 22 with fail
      go_region
      all_goals go_wp2_with fail
      all_goals refine bodyPost_ret (v := .tuple #[.agg #[.int .i64 u1, .int .i64 u2], .agg #[.int .i64 u3, .int .i64 u4], .agg #[.int .i64 u5, .int .i64 u6], .bool true]) ?_ rfl ⟨rfl, ?_⟩
      all_goals first
        | (simp [results, Try.results39, go_sem, c40, c41, c50, c51, c60, c61]; done)
        | (have bb := BB.out; (repeat' (first | (with_reducible exact Below.refl _ _) | (with_reducible assumption) | (with_reducible refine Below.drewN ?_ _) | (with_reducible refine Below.alloc ?_ ?_ _) | (with_reducible refine Below.drew ?_) | (with_reducible refine Below.setCell ?_ ?_ _) | (with_reducible refine Below.trans ?_ (Below.mono (by assumption) ?_)) | go_size | (with_reducible refine Nat.le_trans ?_ (Below.size (by assumption))))))
      all_goals simp
      all_goals omega

end Go.Proofs.Ytoioafadenniiaa
