/- The law laws.FnRiseMiss returns true for all codes, and changes no memory that was there. -/
import Derived.Test.YtcmbfkdhfdiamaaMissAll
import Derived.Test.YtcmbfkdhfdiamaaMissP
import Derived.Test.YtcmbfkdhfdiamaaDraws
namespace Go.Proofs.Ytcmbfkdhfdiamaa
open Go.RowKit

theorem Sm.of_int {z : Int} {M : Int} (h1 : -M ≤ z) (h2 : z ≤ M) (q : Rat) (hq : (z : Rat) = q) : Sm M 1 q := by
  have e : q = qd z 1 := by rw [qd_one, hq]
  rw [e]
  exact ⟨by rw [up_qd]; omega, by rw [up_qd]; omega, by rw [dn_qd]; omega⟩

theorem climbs_as (cv : Bool) (b o c : Nat) (xs : List Int) (w : World) (h : RowI w b o xs) (hl : xs.length ≤ 1048576) (hc : cv = true ↔ Clm xs xs.length) :
    Calls Try.prog 45 #[.slice (some ⟨b, o, none⟩) xs.length c] w fun e w' => e = .returned (.bool cv) ∧ Below w.heap.size w w' :=
  (climbs_any b o c xs w h hl).mono fun e w' ⟨v, h1, h2, h3⟩ => by
    have : v = cv := by
      cases v with
      | true => exact (hc.2 (h2.1 rfl)).symm
      | false =>
        cases cv with
        | false => rfl
        | true => exact absurd (h2.2 (hc.1 rfl)) (by simp)
    subst this
    exact ⟨h1, h3⟩

set_option maxHeartbeats 8000000 in
set_option maxRecDepth 100000 in
theorem FnRiseMiss_main (ad : Option Addr) (n c : Nat) (w : World) (h : CodeB w w.heap.size ad n) (hn : n ≤ 1048576) (hc : n ≤ c) :
    Calls Try.prog 10 #[.slice ad n c] w fun e w' => e = .returned (.bool true) ∧ Below w.heap.size w w' := by
  have H := Lib.hid h
  clear h
  go_enter Try.func10, Try.ntmps10
  go_wp2_with fail
  refine (drawRiseMiss_any ad n c w H.out (by omega) hc).mono ?_
  rintro e w2 ⟨g1, c1, g2, c2, xs, ws, rfl, k1, k2, r1, r2, l1, l2, hb2⟩
  have R1 := Lib.hid r1
  have R2 := Lib.hid r2
  have z2 := hb2.size
  clear r1 r2
  obtain ⟨U, hU⟩ : ∃ U, missU xs ws = U := ⟨_, rfl⟩
  obtain ⟨D, hD⟩ : ∃ D, missD xs ws = D := ⟨_, rfl⟩
  have HU := Lib.hid hU
  have HD := Lib.hid hD
  clear hU hD
  go_wp2_with fail
  refine (riseMiss_all g1 0 c1 g2 0 c2 xs ws _ R1.out R2.out (by omega) (by omega)).mono ?_
  rw [HU.out, HD.out]
  rintro e w3 ⟨rfl, b3⟩
  have z3 := b3.size
  have R1 := Lib.hid (R1.out.below b3)
  have R2 := Lib.hid (R2.out.below b3)
  have B3 : Below w.heap.size w w3 := hb2.trans (b3.mono z2)
  clear b3 hb2
  go_wp2_with fail
  obtain ⟨v3, hv3⟩ : ∃ v3 : World, v3 = w3.alloc (.cells #[.int .i64 U, .int .i64 D] 29) := ⟨_, rfl⟩
  obtain ⟨g5, hg5⟩ : ∃ g5, w3.heap.size = g5 := ⟨_, rfl⟩
  have hk5 : Blk v3 g5 29 [.int .i64 U, .int .i64 D] := by rw [hv3, ← hg5]; exact Blk.made w3 #[.int .i64 U, .int .i64 D] 29
  have b3 : Below w3.heap.size w3 v3 := by rw [hv3]; exact below_alloc
  have hz5 : w.heap.size ≤ g5 := by have := B3.size; omega
  rw [hg5, ← hv3]
  have z4 := b3.size
  have R1 := Lib.hid (R1.out.below b3)
  have R2 := Lib.hid (R2.out.below b3)
  have B4 : Below w.heap.size w v3 := B3.trans (b3.mono (by omega))
  have K5 := Lib.hid hk5
  clear hv3 hk5 b3 B3
  refine (sriseMiss_all g1 0 c1 g2 0 c2 xs ws _ R1.out R2.out (by omega) (by omega)).mono ?_
  rw [HU.out, HD.out]
  rintro e w5 ⟨rfl, b5⟩
  have z5 := b5.size
  have R1 := Lib.hid (R1.out.below b5)
  have R2 := Lib.hid (R2.out.below b5)
  have K5 := Lib.hid (K5.out.below b5)
  have B5 : Below w.heap.size w w5 := B4.trans (b5.mono (by omega))
  have x1 := K5.out.cell (j := 0) rfl
  have x2 := K5.out.cell (j := 1) rfl
  have l5 := K5.out.lt
  clear b5 B4
  cases hv : vlB xs ws with
  | false =>
    go_wp2_with fail
    go_ret
    exact ⟨rfl, B5.alloc B5.size _⟩
  | true =>
    have hvl := vl_of hv
    have hn8 := hvl.n8
    have hn0 := hvl.n0
    have HNW := Lib.hid hvl.nw
    have HV := Lib.hid hvl
    have hU2 : U = up (missR xs ws) := by rw [← HU.out]; simp [missU, hv]
    have hD2 : D = dn (missR xs ws) := by rw [← HD.out]; simp [missD, hv]
    have hsm : Sm 129600000000000 100000000 (missR xs ws) := miss_sm hvl poolR_dec1 (poolR_first hn0) (Nat.le_refl _)
    have hle : ∀ Y : Nat → Rat, (∀ j, j + 1 < xs.length → Y j ≤ Y (j + 1)) → missR xs ws ≤ missQ xs ws Y xs.length := fun Y hY => miss_least hvl hY
    have hcl : missR xs ws = 0 ↔ Clm xs xs.length := miss_clm hvl
    obtain ⟨M, hM⟩ : ∃ M, missR xs ws = M := ⟨_, rfl⟩
    rw [hM] at hU2 hD2 hsm hle hcl
    subst hU2 hD2
    have HLE := Lib.hid hle
    have HCL := Lib.hid hcl
    have HSM := Lib.hid hsm
    clear hvl hsm hle hcl hM HU HD
    go_upto_region 8 with fail
    obtain ⟨v5, hv5⟩ : ∃ v5 : World, v5 = w5.alloc (.cells #[.int .i64 (up M), .int .i64 (dn M)] 29) := ⟨_, rfl⟩
    have b5 : Below w5.heap.size w5 v5 := by rw [hv5]; exact below_alloc
    have B6 : Below w.heap.size w v5 := B5.trans (b5.mono B5.size)
    have R1 := Lib.hid (R1.out.below b5)
    have R2 := Lib.hid (R2.out.below b5)
    have K5 := Lib.hid (K5.out.below b5)
    rw [← hv5]
    have z6 := b5.size
    clear hv5 b5 B5 x1 x2
    have x1 := K5.out.cell (j := 0) rfl
    have x2 := K5.out.cell (j := 1) rfl
    have l6 := K5.out.lt
    go_cut [67] (fun v67 wx => v67 = .bool false ∧ Below v5.heap.size v5 wx)
    case first =>
      have htb := fun k (hk : k < xs.length) => topI_bd (xs := xs) (n := xs.length) HV.out.x k hk
      have hmb := missI_bd (xs := xs) (ws := ws) (ys := tabI (topI xs) xs.length) xs.length HV.out.x (fun k hk => by rw [gi_tabI hk]; exact htb k hk) HV.out.w
      have hml : M ≤ (missI xs ws (tabI (topI xs) xs.length) xs.length : Rat) := by
        rw [missI_miss]
        refine HLE.out _ fun j hj => ?_
        rw [gi_tabI (by omega), gi_tabI hj]
        exact Rat.intCast_le_intCast.2 (clm_topI xs j)
      have hty : ∀ k, k < xs.length → -30 ≤ gi (tabI (topI xs) xs.length) k ∧ gi (tabI (topI xs) xs.length) k ≤ 30 := fun k hk => by rw [gi_tabI hk]; exact htb k hk
      have htl := tabI_length (topI xs) xs.length
      obtain ⟨ts, hts⟩ : ∃ ts, tabI (topI xs) xs.length = ts := ⟨_, rfl⟩
      rw [hts] at hmb hml hty htl
      obtain ⟨z, hz⟩ : ∃ z, missI xs ws ts xs.length = z := ⟨_, rfl⟩
      rw [hz] at hmb hml
      obtain ⟨q, hq⟩ : ∃ q : Rat, (z : Rat) = q := ⟨_, rfl⟩
      rw [hq] at hml
      have hq1 : qd z 1 = q := by rw [qd_one]; exact hq
      have sq := Sm.of_int (z := z) (M := 144000) (by omega) (by omega) q hq
      have spq := sm_mul sq HSM.out
      have FW := Lib.hid (fun w => lfrac_as z 1 q hq1 w (by omega) (by omega) (by omega) (by omega) (by omega))
      have LW := Lib.hid (fun w => lessOf_any q M w (by omega))
      have hd : decide (q < M) = false := by rw [decide_eq_false_iff_not]; grind
      have HTS := Lib.hid hts
      have HTY := Lib.hid hty
      have HTL := Lib.hid htl
      have HZ := Lib.hid hz
      clear htb hmb hml hty htl hts hz hq hq1 sq spq
      obtain ⟨cv, hcv⟩ : ∃ cv : Bool, (up M == 0) = cv := ⟨_, rfl⟩
      have hcc : cv = true ↔ Clm xs xs.length := by rw [← hcv, beq_iff_eq, up_eq_zero]; exact HCL.out
      have CW := Lib.hid (fun w (h : RowI w g1 0 xs) => climbs_as cv g1 0 c1 xs w h (by omega) hcc)
      clear hcc
      cases cv
      all_goals
        go_region_held3 (fun w' => w'.cell? ⟨g5, 0, none⟩ = some (.int .i64 (up M)) ∧ w'.cell? ⟨g5, 1, none⟩ = some (.int .i64 (dn M)) ∧ Below v5.heap.size v5 w')
          ((exact keepS2 (W := v5) (by (repeat' (first | (with_reducible exact Below.refl _ _) | (with_reducible assumption) | (with_reducible refine Below.drewN ?_ _) | (with_reducible refine Below.alloc ?_ ?_ _) | (with_reducible refine Below.drew ?_) | (with_reducible refine Below.setCell ?_ ?_ _) | (with_reducible refine Below.trans ?_ (Below.mono (by assumption) ?_)) | go_size | (with_reducible refine Nat.le_trans ?_ (Below.size (by assumption)))))) ⟨x1, x2, Below.refl _ _⟩))
          ((first
            | (go_at_call 50; have hS : _ ∧ _ ∧ Below v5.heap.size v5 _ := (by assumption); refine (tops_any g1 0 c1 xs _ (R1.out.below hS.2.2) (by omega)).mono ?_; rw [HTS.out]; rintro e w6 ⟨v6, rfl, o6, hb6⟩; obtain ⟨g6, cap6, rfl, hg6⟩ := o6.shape (by omega); have r6 := o6.row; have hz6 := hb6.size)
            | (go_at_call 49; have hS : _ ∧ _ ∧ Below v5.heap.size v5 _ := (by assumption); refine (missTo_any g1 0 c1 g2 0 c2 g6 0 cap6 ws.length xs ws ts _ (R1.out.below hS.2.2) (R2.out.below hS.2.2) (r6.below (by (repeat' (first | (with_reducible exact Below.refl _ _) | (with_reducible assumption) | (with_reducible refine Below.drewN ?_ _) | (with_reducible refine Below.alloc ?_ ?_ _) | (with_reducible refine Below.drew ?_) | (with_reducible refine Below.setCell ?_ ?_ _) | (with_reducible refine Below.trans ?_ (Below.mono (by assumption) ?_)) | go_size | (with_reducible refine Nat.le_trans ?_ (Below.size (by assumption))))))) HNW.out HNW.out HTL.out hn8 HV.out.x HTY.out HV.out.w).mono ?_; rw [HZ.out]; rintro e w7 ⟨rfl, hb7⟩; have hz7 := hb7.size)
            | (go_at_call 33; refine (FW.out _).mono ?_; rintro e w8 ⟨rfl, hb8⟩; have hz8 := hb8.size)
            | (go_at_call 20; refine (LW.out _).mono ?_; rintro e w9 ⟨rfl, hb9⟩; have hz9 := hb9.size)
            | (go_at_call 45; have hS : _ ∧ _ ∧ Below v5.heap.size v5 _ := (by assumption); refine (CW.out _ (R1.out.below hS.2.2)).mono ?_; rintro e w10 ⟨rfl, hb10⟩; have hz10 := hb10.size)))
        all_goals go_wp2_with fail
        all_goals go_meet
        all_goals exact ⟨rfl, by (repeat' (first | (with_reducible exact Below.refl _ _) | (with_reducible assumption) | (with_reducible refine Below.drewN ?_ _) | (with_reducible refine Below.alloc ?_ ?_ _) | (with_reducible refine Below.drew ?_) | (with_reducible refine Below.setCell ?_ ?_ _) | (with_reducible refine Below.trans ?_ (Below.mono (by assumption) ?_)) | go_size | (with_reducible refine Nat.le_trans ?_ (Below.size (by assumption)))))⟩
    case rest =>
      obtain ⟨rfl, hbc⟩ := hcut
      have R1 := Lib.hid (R1.out.below hbc)
      have R2 := Lib.hid (R2.out.below hbc)
      have K5 := Lib.hid (K5.out.below hbc)
      have B7 : Below w.heap.size w wc := B6.trans (hbc.mono B6.size)
      have z7 := hbc.size
      have HCV := Lib.hid hbc
      clear hbc B6 x1 x2 l6 z6 HCV HCL
      go_wp2_with fail
      go_loopw [9] (fun v9 wr => ∃ k : Nat, k ≤ xs.length ∧ v9 = .int .i64 k ∧ Below wc.heap.size wc wr) (fun v9 _ => xs.length - (intOf v9).toNat)
      case atStart => exact ⟨0, Nat.zero_le _, rfl, Below.refl _ _⟩
      case round =>
        obtain ⟨k, hk, rfl, hb⟩ := hrel
        by_cases hlt : k < xs.length
        · obtain ⟨wo, rfl⟩ : ∃ wo : World, wo = wr := ⟨_, rfl⟩
          have hz := hb.size
          obtain ⟨x, hx⟩ : ∃ x, gi xs k = x := ⟨_, rfl⟩
          have bx := HV.out.x k hlt
          rw [hx] at bx
          have HX := Lib.hid hx
          clear hx
          go_wp2_with fail
          go_loopw [10, 11] (fun v10 v11 wr => ∃ j : Nat, j ≤ xs.length ∧ v11 = .int .i64 j ∧ OwnI wr wo.heap.size v10 j (tabI (fun _ => x) j) ∧ Below wo.heap.size wo wr) (fun _ v11 _ => xs.length - (intOf v11).toNat)
          case atStart => exact ⟨0, Nat.zero_le _, rfl, OwnI.empty _ _ (Nat.le_refl _) _ rfl, by (repeat' (first | (with_reducible exact Below.refl _ _) | (with_reducible assumption) | (with_reducible refine Below.drewN ?_ _) | (with_reducible refine Below.alloc ?_ ?_ _) | (with_reducible refine Below.drew ?_) | (with_reducible refine Below.setCell ?_ ?_ _) | (with_reducible refine Below.trans ?_ (Below.mono (by assumption) ?_)) | go_size | (with_reducible refine Nat.le_trans ?_ (Below.size (by assumption)))))⟩
          case round =>
            obtain ⟨j, hj, rfl, hown, hbj⟩ := hrel
            have HO := Lib.hid hown
            have hzj := hbj.size
            have bk : Below wc.heap.size wc wr := hb.trans (hbj.mono hz)
            clear hown
            by_cases hjl : j < xs.length
            · have c1' := (R1.out.below bk).cell k hlt
              rw [HX.out, Nat.zero_add] at c1'
              go_wp2_with (at_builtin; refine wpList_app1 rfl (.tmp 81) (.tmp 86) 23 rfl wo.heap.size 3 (.int .i64 0) 1 8 Try.underlying23 infoI rfl (by decide) (by decide) _ _ _ rfl (World.ownsRow.alloc HO.out _) ⟨wr.heap.size, 0, none⟩ 1 [.int .i64 x] rfl rfl (cell_one_new _ _ _) (by simp [Value.oneCell']) (by omega) (by simp; omega) ?_; intro g2 cap2 w4 o1 o2 o3)
              go_roundw
              case rel => exact ⟨j + 1, by omega, by go_num, by rw [tabI_succ]; exact OwnI.app o1, (hbj.alloc hzj _).trans (Below.app (World.ownsRow.alloc HO.out _) (by simp; omega) o2)⟩
              case measure => simp [intOf]; omega
            · have hjn : j = xs.length := by omega
              have ho := HO.out
              rw [hjn] at ho
              obtain ⟨g10, cap10, rfl, hg10⟩ := ho.shape (by omega)
              have r10 := ho.row
              have hmb := missI_bd (xs := xs) (ws := ws) (ys := tabI (fun _ => x) xs.length) xs.length HV.out.x (fun k hk => by rw [gi_tabI hk]; exact bx) HV.out.w
              have hml : M ≤ (missI xs ws (tabI (fun _ => x) xs.length) xs.length : Rat) := by
                rw [missI_miss]
                refine HLE.out _ fun j hj => ?_
                rw [gi_tabI (by omega), gi_tabI hj]
                exact Rat.le_refl
              have hty : ∀ k, k < xs.length → -30 ≤ gi (tabI (fun _ => x) xs.length) k ∧ gi (tabI (fun _ => x) xs.length) k ≤ 30 := fun k hk => by rw [gi_tabI hk]; exact bx
              have htl := tabI_length (fun _ => x) xs.length
              obtain ⟨ts, hts⟩ : ∃ ts, tabI (fun _ => x) xs.length = ts := ⟨_, rfl⟩
              rw [hts] at hmb hml hty htl r10
              have hmt := fun w (h1 : RowI w g1 0 xs) (h2 : RowI w g2 0 ws) (h3 : RowI w g10 0 ts) => missTo_any g1 0 c1 g2 0 c2 g10 0 cap10 ws.length xs ws ts w h1 h2 h3 HNW.out HNW.out htl hn8 HV.out.x hty HV.out.w
              obtain ⟨z, hz⟩ : ∃ z, missI xs ws ts xs.length = z := ⟨_, rfl⟩
              rw [hz] at hmb hml hmt
              obtain ⟨q, hq⟩ : ∃ q : Rat, (z : Rat) = q := ⟨_, rfl⟩
              rw [hq] at hml
              have hq1 : qd z 1 = q := by rw [qd_one]; exact hq
              have sq := Sm.of_int (z := z) (M := 144000) (by omega) (by omega) q hq
              have spq := sm_mul sq HSM.out
              have FW := Lib.hid (fun w => lfrac_as z 1 q hq1 w (by omega) (by omega) (by omega) (by omega) (by omega))
              have LW := Lib.hid (fun w => lessOf_any q M w (by omega))
              have hd : decide (q < M) = false := by rw [decide_eq_false_iff_not]; grind
              have MT := Lib.hid hmt
              have rr1 := R1.out.below bk
              have rr2 := R2.out.below bk
              have kk5 := K5.out.below bk
              have d1 := kk5.cell (j := 0) rfl
              have d2 := kk5.cell (j := 1) rfl
              have hdj : decide ((j : Int) < (xs.length : Int)) = false := by simp; omega
              rw [hjn]
              clear hmb hml hty htl hts hz hq hq1 sq spq hmt ho HO hdj hjl hjn
              obtain ⟨ι, W, hW0, hWm, hWb⟩ := good_worlds wr
              have hWn : Nonempty ι := hW0.elim fun i _ => ⟨i⟩
              have y1 : ∀ i, (W i).cell? ⟨g5, 0, none⟩ = some (.int .i64 (up M)) := fun i => keepC (hWb i) d1
              have y2 : ∀ i, (W i).cell? ⟨g5, 1, none⟩ = some (.int .i64 (dn M)) := fun i => keepC (hWb i) d2
              have MW := Lib.hid (fun i => MT.out _ (rr1.below (hWb i)) (rr2.below (hWb i)) (r10.below (hWb i)))
              go_upto_region 18 with fail
              (refine region_quiet_tail (C := fun w' => ∃ i, w' = W i) 6 (by kernel_rfl) (by kernel_rfl) hW0 ?_; simp only [List.take_succ_cons, List.take_zero, List.drop_succ_cons, List.drop_zero]; (repeat (go_big_quiet_step (first
                | (go_at_call 49; exact (MW.out _).mono fun e w'' h => ⟨h.1, hWm _ _ h.2⟩)
                | (go_at_call 33; exact (FW.out _).mono fun e w'' h => ⟨h.1, hWm _ _ h.2⟩)))); refine wpQuiet_nil ?_; rintro _ ⟨iw, rfl⟩)
              go_wp2_with (go_at_call 20; refine (LW.out _).mono ?_; rintro e w9 ⟨rfl, hb9⟩)
              go_roundw
              case rel => exact ⟨k + 1, by omega, by go_num, bk.trans (((hWb iw).trans (hb9.mono (hWb iw).size)).mono bk.size)⟩
              case measure => simp [intOf]; omega
        · go_wp2_with fail
          go_ret
          exact ⟨rfl, B7.trans (hb.mono B7.size)⟩

set_option maxHeartbeats 1000000 in
theorem FnRiseMiss_long (ad : Option Addr) (n c : Nat) (w : World) (h : 1048576 < n) (h1 : n ≤ 9223372036854775807) :
    Calls Try.prog 10 #[.slice ad n c] w fun e w' => e = .returned (.bool true) ∧ Below w.heap.size w w' := by
  go_enter Try.func10, Try.ntmps10
  go_wp2_with fail
  go_ret
  exact ⟨rfl, Below.refl _ _⟩

end Go.Proofs.Ytcmbfkdhfdiamaa
