/- The program's strip by threes is the greatest. -/
import Derived.Test.YtoioafadenniiaaStripL
import Derived.Test.YtoioafadenniiaaFOps
import Derived.Test.YtoioafadenniiaaLineI
import Derived.Test.YtoioafadenniiaaBoxF
import Derived.Test.YtoioafadenniiaaFirstT
namespace Go.Proofs.Ytoioafadenniiaa
open Go.RowKit

set_option maxHeartbeats 4000000 in
theorem strip_no (b o c b' o' c' : Nat) (xs ys : List Int) (w : World) (h : RowI w b o xs) (h' : RowI w b' o' ys) (hm : xs.length ≤ 1099511627776) (hm' : ys.length ≤ 1099511627776) (hc : clB xs ys = false) :
    Calls Try.prog 19 #[.slice (some ⟨b, o, none⟩) xs.length c, .slice (some ⟨b', o', none⟩) ys.length c'] w
      fun e w' => e = .returned (.tuple #[.agg #[.int .i64 0, .int .i64 0], .bool false]) ∧ Below w.heap.size w w' := by
  have CV := Lib.hid (fun w h h' => hc ▸ validCloud_any b o c b' o' c' xs ys w h h' hm hm')
  have H := Lib.hid h
  have H' := Lib.hid h'
  clear h h' hc
  go_enter Try.func19, Try.ntmps19
  go_upto_region 1 with fail
  refine wp_abstract (fun W => Blk W w.heap.size 31 [.int .i64 0, .int .i64 0] ∧ Below w.heap.size w W) ⟨Blk.made' _ rfl rfl, by (repeat' (first | (with_reducible exact Below.refl _ _) | (with_reducible assumption) | (with_reducible refine Below.drewN ?_ _) | (with_reducible refine Below.alloc ?_ ?_ _) | (with_reducible refine Below.drew ?_) | (with_reducible refine Below.setCell ?_ ?_ _) | (with_reducible refine Below.trans ?_ (Below.mono (by assumption) ?_)) | go_size | (with_reducible refine Nat.le_trans ?_ (Below.size (by assumption)))))⟩ ?_
  rintro W0 ⟨hk4, hb⟩
  have K4 := Lib.hid hk4
  have hz := hb.size
  clear hk4
  go_wp2_with (go_at_call 50; refine (CV.out _ (H.out.below hb) (H'.out.below hb)).mono ?_; rintro e w1 ⟨rfl, hb1⟩; have k4 := K4.out.below hb1; have c40 := k4.cell (j := 0) rfl; have c41 := k4.cell (j := 1) rfl; have f40 := k4.frozen 0; have f41 := k4.frozen 1)
  refine bodyPost_ret (v := .tuple #[.agg #[.int .i64 0, .int .i64 0], .bool false]) ?_ rfl ⟨rfl, ?_⟩
  · simp [results, Try.results19, go_sem, c40, c41]
  · have b1 := hb.trans (hb1.mono hz)
    exact (b1.setCell (Nat.le_refl _) _).setCell (Nat.le_refl _) _

theorem ownF_one (w : World) (base : Nat) (q : Rat) (hb : base ≤ w.heap.size) : OwnF (w.alloc (.cells #[.int .i64 (up q), .int .i64 (dn q)] 31)) base (.slice (some ⟨w.heap.size, 0, none⟩) 1 1) 1 [q] :=
  ⟨rfl, .inr ⟨w.heap.size, 1, _, rfl, hb, heap_alloc_new w _, Nat.le_refl _, by unfold maxLen; omega, rfl, rfl⟩⟩

set_option maxHeartbeats 8000000 in
set_option maxRecDepth 100000 in
theorem strip_yes (b o c b' o' c' : Nat) (xs ys : List Int) (w : World) (h : RowI w b o xs) (h' : RowI w b' o' ys) (hc : Cl xs ys) (hcb : clB xs ys = true) :
    Calls Try.prog 19 #[.slice (some ⟨b, o, none⟩) xs.length c, .slice (some ⟨b', o', none⟩) ys.length c'] w
      fun e w' => ∃ m, Top (StR xs ys) m ∧ e = .returned (.tuple #[.agg #[.int .i64 (up m), .int .i64 (dn m)], .bool true]) ∧ Below w.heap.size w w' := by
  have hl : ys.length = xs.length := hc.pl.ne
  have n7 := hc.pl.nm
  have HP := Lib.hid hc.pl
  have CV := Lib.hid (fun w h h' => hcb ▸ validCloud_any b o c b' o' c' xs ys w h h' (by omega) (by omega))
  have SLP := Lib.hid (fun i k r w (h : RowI w b o xs) (h' : RowI w b' o' ys) hi hk hne hr => slope_any b o c b' o' c' i k xs ys r w h h' hi hk hl.symm (fun j hj => by have := hc.pl.x j hj; omega) (fun j hj => by have := hc.pl.y j (by omega); omega) hne hr)
  have H := Lib.hid h
  have H' := Lib.hid h'
  obtain ⟨n, hn⟩ : ∃ n, xs.length = n := ⟨_, rfl⟩
  have hn' : ys.length = n := by omega
  have HN := Lib.hid hn
  have W0' := Lib.hid (whole_a 0 0 (by rw [qd_i]; rfl))
  have CX := Lib.hid (fun k (hk : k < n) w (h : RowI w b o xs) => h.cell k (by omega))
  have CY := Lib.hid (fun k (hk : k < n) w (h : RowI w b' o' ys) => h.cell k (by omega))
  have BX := Lib.hid (fun k (hk : k < n) => hc.pl.x k (by omega))
  have BY := Lib.hid (fun k (hk : k < n) => hc.pl.y k (by omega))
  rw [hn] at CV SLP n7 ⊢
  rw [hn'] at CV SLP ⊢
  clear h h' hc hcb hl hn hn'
  go_enter Try.func19, Try.ntmps19
  go_upto_region 1 with fail
  refine wp_abstract (fun W => Blk W w.heap.size 31 [.int .i64 0, .int .i64 0] ∧ Below w.heap.size w W) ⟨Blk.made' _ rfl rfl, by (repeat' (first | (with_reducible exact Below.refl _ _) | (with_reducible assumption) | (with_reducible refine Below.drewN ?_ _) | (with_reducible refine Below.alloc ?_ ?_ _) | (with_reducible refine Below.drew ?_) | (with_reducible refine Below.setCell ?_ ?_ _) | (with_reducible refine Below.trans ?_ (Below.mono (by assumption) ?_)) | go_size | (with_reducible refine Nat.le_trans ?_ (Below.size (by assumption)))))⟩ ?_
  rintro W0 ⟨hk4, hb⟩
  have K4 := Lib.hid hk4
  have B0 := Lib.hid hb
  have hz := hb.size
  have l4 := hk4.lt
  clear hk4 hb
  go_upto_region 4 with (first
    | (go_at_call 50; refine (CV.out _ (H.out.below B0.out) (H'.out.below B0.out)).mono ?_; rintro e w1 ⟨rfl, hb1⟩)
    | (go_at_call 51; refine (W0'.out _).mono ?_; rintro e w2 ⟨rfl, hb2⟩))
  obtain ⟨g6, hg6⟩ : ∃ g, w2.heap.size = g := ⟨_, rfl⟩
  rw [hg6]
  have z1 := hb1.size
  have z2 := hb2.size
  refine wp_abstract (fun W => OwnF W W0.heap.size (.slice (some ⟨g6, 0, none⟩) 1 1) 1 [0] ∧ W0.heap.size ≤ g6 ∧ Below W0.heap.size W0 W) ⟨by subst hg6; exact ownF_one _ _ _ (by omega), by omega, by (repeat' (first | (with_reducible exact Below.refl _ _) | (with_reducible assumption) | (with_reducible refine Below.drewN ?_ _) | (with_reducible refine Below.alloc ?_ ?_ _) | (with_reducible refine Below.drew ?_) | (with_reducible refine Below.setCell ?_ ?_ _) | (with_reducible refine Below.trans ?_ (Below.mono (by assumption) ?_)) | go_size | (with_reducible refine Nat.le_trans ?_ (Below.size (by assumption)))))⟩ ?_
  rintro W1 ⟨k6, z6, b1⟩
  have K6 := Lib.hid k6
  have B1 := Lib.hid b1
  have S0 := Lib.hid (si_start xs ys)
  clear k6 b1 hb1 hb2 hg6 z1 z2
  go_wp2_with fail
  go_loopw [6, 20] (fun v6 v20 wr => ∃ (i m : Nat) (fs : List Rat), i ≤ n ∧ v20 = .int .i64 i ∧ OwnF wr W0.heap.size v6 m fs ∧ m ≤ 1 + 49 * i ∧ SI xs ys fs i 0 0 ∧ Below W0.heap.size W0 wr) (fun _ v20 _ => n - (intOf v20).toNat)
  case atStart => exact ⟨0, 1, [0], Nat.zero_le _, rfl, K6.out, by omega, S0.out, B1.out⟩
  case round =>
    clear K6 B1 S0
    obtain ⟨i, m, fs, hi, rfl, hown, hm, hs, hb⟩ := hrel
    have S := Lib.hid hs
    have O6 := Lib.hid hown
    have B1 := Lib.hid hb
    have zr := hb.size
    clear hs hown hb
    by_cases hlt : i < n
    · go_wp2_with fail
      go_loopw [6, 25] (fun v6 v25 wr => ∃ (j m : Nat) (fs : List Rat), j ≤ n ∧ v25 = .int .i64 j ∧ OwnF wr W0.heap.size v6 m fs ∧ m ≤ 1 + 49 * i + 7 * j ∧ SI xs ys fs i j 0 ∧ Below W0.heap.size W0 wr) (fun _ v25 _ => n - (intOf v25).toNat)
      case atStart => exact ⟨0, m, fs, Nat.zero_le _, rfl, O6.out, by omega, S.out, B1.out⟩
      case round =>
        clear O6 B1 S zr hm
        obtain ⟨j, m, fs, hj, rfl, hown, hm, hs, hb⟩ := hrel
        have S := Lib.hid hs
        have O6 := Lib.hid hown
        have B1 := Lib.hid hb
        have zr := hb.size
        clear hs hown hb
        by_cases hltj : j < n
        · obtain ⟨wo, rfl⟩ : ∃ wo : World, wo = wr := ⟨_, rfl⟩
          have R1 := Lib.hid (H.out.below (B0.out.trans (B1.out.mono hz)))
          have R2 := Lib.hid (H'.out.below (B0.out.trans (B1.out.mono hz)))
          have c1 := CX.out i hlt _ R1.out
          have c2 := CX.out j hltj _ R1.out
          have bx1 := BX.out i hlt
          have bx2 := BX.out j hltj
          obtain ⟨x1, hx1⟩ : ∃ x, gi xs i = x := ⟨_, rfl⟩
          obtain ⟨x2, hx2⟩ : ∃ x, gi xs j = x := ⟨_, rfl⟩
          rw [hx1] at c1 bx1
          rw [hx2] at c2 bx2
          have HX1 := Lib.hid hx1
          have HX2 := Lib.hid hx2
          clear hx1 hx2
          by_cases hxx : x1 = x2
          · have t1 : (x1 == x2) = true := by simp [hxx]
            have HXX := Lib.hid (show gi xs i = gi xs j by rw [HX1.out, HX2.out]; exact hxx)
            clear hxx
            have c4 := CY.out i hlt _ R2.out
            have c5 := CY.out j hltj _ R2.out
            have by1 := BY.out i hlt
            have by2 := BY.out j hltj
            have hss := sm_sm HP.out (i := i) (k := j) (by rw [HN.out]; exact hlt) (by rw [HN.out]; exact hltj)
            have hsi := S.out.same (by rw [HN.out]; exact hlt) (by rw [HN.out]; exact hltj) HXX.out
            obtain ⟨p, hp⟩ : ∃ p, qd (gi ys i - gi ys j) 1 = p := ⟨_, rfl⟩
            obtain ⟨sz, hsz⟩ : ∃ s, szR p = s := ⟨_, rfl⟩
            obtain ⟨v, hv⟩ : ∃ v, smH ys i j = v := ⟨_, rfl⟩
            have hv' : sz * qd 1 2 = v := by rw [← hv, ← hsz, ← hp]; rfl
            rw [hp, hv] at hss
            rw [hv] at hsi
            obtain ⟨y1, hy1⟩ : ∃ x, gi ys i = x := ⟨_, rfl⟩
            obtain ⟨y2, hy2⟩ : ∃ x, gi ys j = x := ⟨_, rfl⟩
            rw [hy1] at c4 by1 hp
            rw [hy2] at c5 by2 hp
            obtain ⟨dy, hdy⟩ : ∃ d, y1 - y2 = d := ⟨_, rfl⟩
            have q1 : IntKind.i64.wrap (y1 - y2) = dy := by rw [← hdy]; exact IntWalk.i64_in _ (by omega)
            rw [hdy] at hp
            have ssz : Sm 24 1 sz := hsz ▸ sm_sz hss.1
            have WY := Lib.hid (whole_a dy p hp)
            have SZ := Lib.hid (fun w => size_any p sz hsz w (by have := hss.1.1; omega) (by have := hss.1.2.1; omega))
            have HF := Lib.hid (fun w => half_any sz v 24 1 hv' w ssz (by omega) (by omega))
            have SI' := Lib.hid hsi
            clear hss hsi hp hsz hv hv' hy1 hy2 hdy ssz by1 by2 bx1 bx2
            go_wp2_with fail
            go_quiet (fail)
            go_upto_region 11 with fail
            refine wp_abstract (fun W => Below wo.heap.size wo W) (Below.drewN (Below.refl _ _) _) ?_
            intro w5 hb5
            have z5 := hb5.size
            obtain ⟨ι, W, hW0, hWm, hWb⟩ := good_worlds w5
            have hWn : Nonempty ι := hW0.elim fun i _ => ⟨i⟩
            have z3 : ∀ i', (W i').cell? ⟨b', o' + i, none⟩ = some (.int .i64 y1) := fun i' => keepC (hWb i') (keepC hb5 c4)
            have z4 : ∀ i', (W i').cell? ⟨b', o' + j, none⟩ = some (.int .i64 y2) := fun i' => keepC (hWb i') (keepC hb5 c5)
            have O5 := Lib.hid (O6.out.below hb5)
            have B5 := Lib.hid (B1.out.trans (hb5.mono zr))
            clear hb5 c1 c2 c4 c5
            (refine region_first_tail (C := fun w' => ∃ i, w' = W i) 13 (by kernel_rfl) (by kernel_rfl) rfl (fun _ _ _ h => h) (Or.inl ⟨by rfl, fun _ => by rfl⟩) hW0 ?_; simp only [List.take_succ_cons, List.take_zero, List.drop_succ_cons, List.drop_zero, Act.put, List.setIfInBounds_toArray, List.set_cons_zero, List.set_cons_succ]; (repeat (go_big_quiet_step (first
              | (go_at_call 51; exact (WY.out _).mono fun e w'' h => ⟨h.1, hWm _ _ h.2⟩)
              | (go_at_call 52; exact (SZ.out _).mono fun e w'' h => ⟨h.1, hWm _ _ h.2⟩)
              | (go_at_call 53; exact (HF.out _).mono fun e w'' h => ⟨h.1, hWm _ _ h.2⟩)))); refine wpQuiet_nil ?_; rintro _ ⟨iw, rfl⟩)
            have hbi := hWb iw
            have zi := hbi.size
            have OW := Lib.hid (O5.out.below hbi)
            have BW := Lib.hid (B5.out.trans (hbi.mono (by omega)))
            clear hbi hWb hWm hW0 hWn z3 z4
            go_wp2_with (at_builtin; refine wpList_app1 rfl (.tmp 37) (.tmp 50) 23 rfl W0.heap.size 31 (.agg #[.int .i64 0, .int .i64 0]) 2 16 Try.underlying23 infoF rfl (by decide) (by decide) _ _ _ rfl (World.ownsRow.alloc OW.out _) ⟨_, 0, none⟩ 1 [.int .i64 (up v), .int .i64 (dn v)] rfl rfl (cell_two_new _ _ _ _) (by simp [Value.oneCell']) (by omega) (by simp; omega) ?_; intro g9 cap9 w9 o1 o2 o3)
            go_roundw
            case rel => exact ⟨j + 1, m + 1, _, by omega, by go_num, OwnF.app o1, by omega, SI'.out, (BW.out.alloc (by omega) _).trans (Below.app (World.ownsRow.alloc OW.out _) (by simp; omega) o2)⟩
            case measure => simp [intOf]; omega
          · have t1 : (x1 == x2) = false := by simpa using hxx
            have HNE := Lib.hid (show gi xs i ≠ gi xs j by rw [HX1.out, HX2.out]; exact hxx)
            clear hxx
            go_wp2_with fail
            go_quiet (fail)
            go_upto_region 12 with fail
            refine wp_abstract (fun W => Below wo.heap.size wo W) (Below.drewN (Below.refl _ _) _) ?_
            intro w5 hb5
            have z5 := hb5.size
            have O5 := Lib.hid (O6.out.below hb5)
            have B5 := Lib.hid (B1.out.trans (hb5.mono zr))
            clear hb5 c1 c2 R1 R2
            go_wp2_with fail
            go_loopw [6, 54] (fun v6 v54 wr => ∃ (k m : Nat) (fs : List Rat), k ≤ n ∧ v54 = .int .i64 k ∧ OwnF wr W0.heap.size v6 m fs ∧ m ≤ 1 + 49 * i + 7 * j + k ∧ SI xs ys fs i j k ∧ Below W0.heap.size W0 wr) (fun _ v54 _ => n - (intOf v54).toNat)
            case atStart => exact ⟨0, m, fs, Nat.zero_le _, rfl, O5.out, by omega, S.out, B5.out⟩
            case round =>
              clear O5 B5 S O6 B1 zr hm z5
              obtain ⟨k, m, fs, hk, rfl, hown, hm, hs, hb⟩ := hrel
              have S := Lib.hid hs
              have O6 := Lib.hid hown
              have B1 := Lib.hid hb
              have zr := hb.size
              clear hs hown hb
              by_cases hltk : k < n
              · obtain ⟨wo, rfl⟩ : ∃ wo : World, wo = wr := ⟨_, rfl⟩
                by_cases e1 : k = i
                · have d1 : ((k : Int) != (i : Int)) = false := by simp [e1]
                  have SK := Lib.hid (S.out.skip (.inl e1))
                  clear e1
                  go_wp2_with fail
                  go_quiet (fail)
                  go_wp2_with fail
                  go_roundw
                  case rel => exact ⟨k + 1, m, fs, by omega, by go_num, O6.out.below (Below.drewN (Below.refl _ _) _), by omega, SK.out, Below.drewN B1.out _⟩
                  case measure => simp [intOf]; omega
                · have d1 : ((k : Int) != (i : Int)) = true := by rw [bne_iff_ne]; omega
                  have E1 := Lib.hid e1
                  clear e1
                  by_cases e2 : k = j
                  · have d2 : ((k : Int) != (j : Int)) = false := by simp [e2]
                    have SK := Lib.hid (S.out.skip (.inr (.inl e2)))
                    clear e2
                    go_wp2_with fail
                    go_quiet (fail)
                    go_wp2_with fail
                    go_roundw
                    case rel => exact ⟨k + 1, m, fs, by omega, by go_num, O6.out.below (Below.drewN (Below.refl _ _) _), by omega, SK.out, Below.drewN B1.out _⟩
                    case measure => simp [intOf]; omega
                  · have d2 : ((k : Int) != (j : Int)) = true := by rw [bne_iff_ne]; omega
                    have E2 := Lib.hid e2
                    clear e2
                    have R1 := Lib.hid (H.out.below (B0.out.trans (B1.out.mono hz)))
                    have R2 := Lib.hid (H'.out.below (B0.out.trans (B1.out.mono hz)))
                    have c1 := CX.out i hlt _ R1.out
                    have c2 := CX.out j hltj _ R1.out
                    have c3 := CX.out k hltk _ R1.out
                    have bx3 := BX.out k hltk
                    rw [HX1.out] at c1
                    rw [HX2.out] at c2
                    obtain ⟨x3, hx3⟩ : ∃ x, gi xs k = x := ⟨_, rfl⟩
                    rw [hx3] at c3 bx3
                    have HX3 := Lib.hid hx3
                    clear hx3
                    obtain ⟨mn, hmn⟩ : ∃ m, min x1 x2 = m := ⟨_, rfl⟩
                    obtain ⟨mx, hmx⟩ : ∃ m, max x1 x2 = m := ⟨_, rfl⟩
                    have mn1 : (if x2 < x1 then x2 else x1) = mn := by rw [← hmn]; split <;> omega
                    have mn2 : (if x1 ≤ x2 then x1 else x2) = mn := by rw [← hmn]; split <;> omega
                    have mx1 : (if x1 < x2 then x2 else x1) = mx := by rw [← hmx]; split <;> omega
                    have mx2 : (if x1 ≤ x2 then x2 else x1) = mx := by rw [← hmx]; split <;> omega
                    obtain ⟨t, ht⟩ : ∃ t, inB x3 mn mx = t := ⟨_, rfl⟩
                    have IR := Lib.hid (show ∀ q, Calls Try.prog 54 #[.int .i64 x3, .int .i64 mn, .int .i64 mx] (wo.drewN q) fun e w'' => e = .returned (.bool t) ∧ ∃ m, w'' = wo.drewN m from
                      fun q => (in_any x3 mn mx (wo.drewN q)).mono fun e w'' h => ⟨by rw [h.1, ht], q, h.2.symm⟩)
                    have BT := Lib.hid (show t = true ↔ Btw xs i j k by
                      rw [← ht, inB_iff]
                      unfold Btw
                      rw [HX1.out, HX2.out, HX3.out]
                      omega)
                    clear ht
                    cases t with
                    | false =>
                      have SK := Lib.hid (S.out.skip (.inr (.inr fun h => Bool.noConfusion (BT.out.2 h))))
                      clear bx1 bx2 bx3
                      go_wp2_with fail
                      go_quiet ((go_at_call 54; exact IR.out _))
                      go_wp2_with fail
                      go_roundw
                      case rel => exact ⟨k + 1, m, fs, by omega, by go_num, O6.out.below (Below.drewN (Below.refl _ _) _), by omega, SK.out, Below.drewN B1.out _⟩
                      case measure => simp [intOf]; omega
                    | true =>
                      have hne := HNE.out
                      have hbt := BT.out.1 rfl
                      have hi' : i < xs.length := by rw [HN.out]; exact hlt
                      have hj' : j < xs.length := by rw [HN.out]; exact hltj
                      have hk' : k < xs.length := by rw [HN.out]; exact hltk
                      have hds := dv_sm HP.out hi' hj' hk' hne
                      have hsi := S.out.add hi' hj' hk' hne hbt
                      have c4 := CY.out i hlt _ R2.out
                      have c6 := CY.out k hltk _ R2.out
                      have by1 := BY.out i hlt
                      have by3 := BY.out k hltk
                      obtain ⟨sl, hsl⟩ : ∃ s, slR xs ys i j = s := ⟨_, rfl⟩
                      have hsl' : qd (gi ys i - gi ys j) (gi xs i - gi xs j) = sl := hsl
                      have SL := Lib.hid (fun w h h' => SLP.out i j sl w h h' hlt hltj hne hsl')
                      obtain ⟨at', hat⟩ : ∃ s, atR xs ys i j k = s := ⟨_, rfl⟩
                      obtain ⟨dd, hdd⟩ : ∃ s, qd (gi ys k) 1 - at' = s := ⟨_, rfl⟩
                      obtain ⟨sz, hsz⟩ : ∃ s, szR dd = s := ⟨_, rfl⟩
                      obtain ⟨v, hv⟩ : ∃ s, dvH xs ys i j k = s := ⟨_, rfl⟩
                      have hv' : sz * qd 1 2 = v := by rw [← hv, ← hsz, ← hdd, ← hat]; rfl
                      obtain ⟨y1, hy1⟩ : ∃ x, gi ys i = x := ⟨_, rfl⟩
                      obtain ⟨y3, hy3⟩ : ∃ x, gi ys k = x := ⟨_, rfl⟩
                      obtain ⟨dx, hdx⟩ : ∃ d, x3 - x1 = d := ⟨_, rfl⟩
                      have q1 : IntKind.i64.wrap (x3 - x1) = dx := by rw [← hdx]; exact IntWalk.i64_in _ (by omega)
                      obtain ⟨qx, hqx⟩ : ∃ q, qd dx 1 = q := ⟨_, rfl⟩
                      obtain ⟨qy, hqy⟩ : ∃ q, qd y1 1 = q := ⟨_, rfl⟩
                      obtain ⟨qz, hqz⟩ : ∃ q, qd y3 1 = q := ⟨_, rfl⟩
                      obtain ⟨tm, htm⟩ : ∃ q, sl * qx = q := ⟨_, rfl⟩
                      rw [hsl, hat, hv, hdd, HX1.out, HX3.out, hdx, hqx, htm] at hds
                      have hat' : qy + tm = at' := by rw [← hat, ← hqy, ← htm, ← hqx, ← hsl, ← hdx, ← hy1, ← HX1.out, ← HX3.out]; rfl
                      rw [hy3, hqz] at hdd
                      rw [hy1] at c4 by1
                      rw [hy3] at c6 by3
                      rw [hv] at hsi
                      obtain ⟨s1, s2, s3, s4, s5⟩ := hds
                      have sqx : Sm 24 1 qx := hqx ▸ sm_int (by omega) (by omega)
                      have sqy : Sm 12 1 qy := hqy ▸ sm_int (by omega) (by omega)
                      have sqz : Sm 12 1 qz := hqz ▸ sm_int (by omega) (by omega)
                      have ssz : Sm 1152 24 sz := hsz ▸ sm_sz s4
                      have m1 := sm_mul sqy s2
                      have m2 := sm_mul sqz s3
                      have WX := Lib.hid (whole_a dx qx hqx)
                      have WY := Lib.hid (whole_a y1 qy hqy)
                      have WZ := Lib.hid (whole_a y3 qz hqz)
                      have TW := Lib.hid (fun w => times_any sl qx tm htm w ⟨by have := s1.1; omega, by have := s1.2.1; omega⟩ (by have := s1.2.2; omega) ⟨by have := sqx.1; omega, by have := sqx.2.1; omega⟩ (by have := sqx.2.2; omega) ⟨by have := s2.1; omega, by have := s2.2.1; omega⟩ (by have := s2.2.2; omega))
                      have PW := Lib.hid (fun w => plus_any qy tm at' hat' w (by omega) (by omega))
                      have MW := Lib.hid (fun w => minus_any qz at' dd hdd w (by omega) (by omega))
                      have SZ := Lib.hid (fun w => size_any dd sz hsz w (by have := s4.1; omega) (by have := s4.2.1; omega))
                      have HF := Lib.hid (fun w => half_any sz v 1152 24 hv' w ssz (by omega) (by omega))
                      have SI' := Lib.hid hsi
                      clear hsl hsl' hat hdd hsz hv hv' hy1 hy3 hdx hqx hqy hqz htm hat' hsi s1 s2 s3 s4 s5 sqx sqy sqz ssz m1 m2 by1 by3 bx3 hne hbt hi' hj' hk'
                      clear bx1 bx2
                      go_wp2_with fail
                      go_quiet ((go_at_call 54; exact IR.out _))
                      go_upto_region 16 with fail
                      refine wp_abstract (fun W => Below wo.heap.size wo W) (Below.drewN (Below.refl _ _) _) ?_
                      intro w5 hb5
                      have z5 := hb5.size
                      have R1 := Lib.hid (R1.out.below hb5)
                      have R2 := Lib.hid (R2.out.below hb5)
                      have O5 := Lib.hid (O6.out.below hb5)
                      have B5 := Lib.hid (B1.out.trans (hb5.mono zr))
                      have c1 := keepC hb5 c1
                      have c3 := keepC hb5 c3
                      have c4 := keepC hb5 c4
                      have c6 := keepC hb5 c6
                      clear hb5 c2 IR mn1 mn2 mx1 mx2
                      (refine region_box_tail 22 (by kernel_rfl) (by kernel_rfl) rfl allocF ?_; intro WB gB hWB hgB; obtain ⟨ι, W, hCW, hWn, hWm, hWb⟩ := cl_worlds WB; rw [hCW])
                      have z1 : ∀ i', (W i').cell? ⟨b, o + i, none⟩ = some (.int .i64 x1) := fun i => keepC (hWb i) (keepC hWB c1)
                      have z3 : ∀ i', (W i').cell? ⟨b, o + k, none⟩ = some (.int .i64 x3) := fun i => keepC (hWb i) (keepC hWB c3)
                      have z4 : ∀ i', (W i').cell? ⟨b', o' + i, none⟩ = some (.int .i64 y1) := fun i => keepC (hWb i) (keepC hWB c4)
                      have HH := Lib.hid (fun i => (R1.out.below hWB).below (hWb i))
                      have HH' := Lib.hid (fun i => (R2.out.below hWB).below (hWb i))
                      (simp only [Act.put, List.setIfInBounds_toArray, List.set_cons_zero, List.set_cons_succ, List.take_succ_cons, List.take_zero]; (repeat (go_big_quiet_step (first
                        | (go_at_call_of 51 y1; exact (WY.out _).mono fun e w'' h => ⟨h.1, hWm _ _ h.2⟩)
                        | (go_at_call_of 51 dx; exact (WX.out _).mono fun e w'' h => ⟨h.1, hWm _ _ h.2⟩)
                        | (go_at_call 56; exact (SL.out _ (HH.out _) (HH'.out _)).mono fun e w'' h => ⟨h.1, hWm _ _ h.2⟩)
                        | (go_at_call 57; exact (TW.out _).mono fun e w'' h => ⟨h.1, hWm _ _ h.2⟩)
                        | (go_at_call 55; exact (PW.out _).mono fun e w'' h => ⟨h.1, hWm _ _ h.2⟩)))); refine wpQuiet_nil ?_; rintro _ ⟨iw, rfl⟩ hkB)
                      have b0 := hkB.cell (j := 0) rfl
                      have b1 := hkB.cell (j := 1) rfl
                      have b2 := hkB.frozen 0
                      have b3 := hkB.frozen 1
                      have lB := hkB.lt
                      go_upto_region 17 with fail
                      have hbW := hWB.trans ((hWb iw).mono hWB.size)
                      refine wp_abstract (fun W => Blk W gB 31 [.int .i64 (up at'), .int .i64 (dn at')] ∧ Below w5.heap.size w5 W)
                        ⟨hkB.two (x := .int .i64 0) (y := .int .i64 0) _ _, (hbW.setCell (by show w5.heap.size ≤ gB; exact hgB) _).setCell (by show w5.heap.size ≤ gB; exact hgB) _⟩ ?_
                      rintro w9 ⟨k9, b9⟩
                      have z9 := b9.size
                      have d4 := k9.cell (j := 0) rfl
                      have d5 := k9.cell (j := 1) rfl
                      have c6 := keepC b9 c6
                      have O9 := Lib.hid (O5.out.below b9)
                      have B9 := Lib.hid (B5.out.trans (b9.mono (by omega)))
                      clear hkB b0 b1 b2 b3 lB hbW hWB z1 z3 z4 HH HH' hWb hWm hCW hWn k9 b9 c1 c3 c4 hgB
                      clear iw W
                      obtain ⟨ι2, W, hW0, hWm, hWb⟩ := good_worlds w9
                      have hWn : Nonempty ι2 := hW0.elim fun i _ => ⟨i⟩
                      have z1 : ∀ i', (W i').cell? ⟨b', o' + k, none⟩ = some (.int .i64 y3) := fun i => keepC (hWb i) c6
                      have z2 : ∀ i', (W i').cell? ⟨gB, 0, none⟩ = some (.int .i64 (up at')) := fun i => keepC (hWb i) d4
                      have z3 : ∀ i', (W i').cell? ⟨gB, 1, none⟩ = some (.int .i64 (dn at')) := fun i => keepC (hWb i) d5
                      clear c6 d4 d5
                      (refine region_first_tail (C := fun w' => ∃ i, w' = W i) 10 (by kernel_rfl) (by kernel_rfl) rfl (fun _ _ _ h => h) (Or.inl ⟨by rfl, fun _ => by rfl⟩) hW0 ?_; simp only [List.take_succ_cons, List.take_zero, List.drop_succ_cons, List.drop_zero, Act.put, List.setIfInBounds_toArray, List.set_cons_zero, List.set_cons_succ]; (repeat (go_big_quiet_step (first
                        | (go_at_call 51; exact (WZ.out _).mono fun e w'' h => ⟨h.1, hWm _ _ h.2⟩)
                        | (go_at_call 58; exact (MW.out _).mono fun e w'' h => ⟨h.1, hWm _ _ h.2⟩)
                        | (go_at_call 52; exact (SZ.out _).mono fun e w'' h => ⟨h.1, hWm _ _ h.2⟩)
                        | (go_at_call 53; exact (HF.out _).mono fun e w'' h => ⟨h.1, hWm _ _ h.2⟩)))); refine wpQuiet_nil ?_; rintro _ ⟨iw, rfl⟩)
                      have hbi := hWb iw
                      have zi := hbi.size
                      have OW := Lib.hid (O9.out.below hbi)
                      have BW := Lib.hid (B9.out.trans (hbi.mono (by omega)))
                      clear hbi hWb hWm hW0 hWn z1 z2 z3
                      go_wp2_with (at_builtin; refine wpList_app1 rfl (.tmp 112) (.tmp 122) 23 rfl W0.heap.size 31 (.agg #[.int .i64 0, .int .i64 0]) 2 16 Try.underlying23 infoF rfl (by decide) (by decide) _ _ _ rfl (World.ownsRow.alloc OW.out _) ⟨_, 0, none⟩ 1 [.int .i64 (up v), .int .i64 (dn v)] rfl rfl (cell_two_new _ _ _ _) (by simp [Value.oneCell']) (by omega) (by simp; omega) ?_; intro g9 cap9 w10 o1 o2 o3)
                      go_roundw
                      case rel => exact ⟨k + 1, m + 1, _, by omega, by go_num, OwnF.app o1, by omega, SI'.out, (BW.out.alloc (by omega) _).trans (Below.app (World.ownsRow.alloc OW.out _) (by simp; omega) o2)⟩
                      case measure => simp [intOf]; omega
              · obtain rfl : k = n := by omega
                have SC := Lib.hid (S.out.col HN.out HNE.out)
                go_wp2_with fail
                go_roundw
                case rel => exact ⟨j + 1, m, fs, by omega, by go_num, O6.out, by omega, SC.out, B1.out⟩
                case measure => simp [intOf]; omega
        · obtain rfl : j = n := by omega
          have SC := Lib.hid (S.out.row HN.out)
          go_wp2_with fail
          go_roundw
          case rel => exact ⟨i + 1, m, fs, by omega, by go_num, O6.out, by omega, SC.out, B1.out⟩
          case measure => simp [intOf]; omega
    · obtain rfl : i = n := by omega
      have hlen := O6.out.len
      have ht := S.out.top HN.out hlen
      have hm0 : m ≠ 0 := by
        obtain ⟨k, hk, _⟩ := S.out.z
        omega
      obtain ⟨g, cap, rfl, hg⟩ := O6.out.shape hm0
      have hbk := O6.out.blk
      have hsm := S.out.sm HP.out
      obtain ⟨q, hq⟩ : ∃ q, mxQ fs (m - 1) = q := ⟨_, rfl⟩
      have hmf := fun w (hw : Blk w g 31 (fc fs)) => maxFunc_any 1152 48 g cap m fs w hw hlen (by omega) (by omega) hsm (by omega) (by omega)
      rw [hq] at hmf ht
      have MF := Lib.hid (hmf wr hbk)
      have HT := Lib.hid ht
      have k4 := K4.out.below B1.out
      have K4' := Lib.hid k4
      clear hmf ht hq hsm hbk hlen hm0 k4
      go_wp2_with (go_at_call 59; refine MF.out.mono ?_; rintro e w9 ⟨rfl, hb9⟩; have k4 := K4'.out.below hb9; have c40 := k4.cell (j := 0) rfl; have c41 := k4.cell (j := 1) rfl; have f40 := k4.frozen 0; have f41 := k4.frozen 1)
      refine bodyPost_ret (v := .tuple #[.agg #[.int .i64 (up q), .int .i64 (dn q)], .bool true]) ?_ rfl ⟨q, HT.out, rfl, ?_⟩
      · simp [results, Try.results19, go_sem, c40, c41]
      · have b2 := (B0.out.trans (B1.out.mono hz)).trans (hb9.mono (by omega))
        exact (b2.setCell (Nat.le_refl _) _).setCell (Nat.le_refl _) _

end Go.Proofs.Ytoioafadenniiaa
