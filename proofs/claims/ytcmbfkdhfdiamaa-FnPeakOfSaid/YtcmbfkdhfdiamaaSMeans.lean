/- Rows that rise, by means: the reference's walk. -/
import Derived.Test.YtcmbfkdhfdiamaaMeans
namespace Go.Proofs.Ytcmbfkdhfdiamaa
open Go.RowKit

theorem OwnF.empty (w : World) (base : Nat) (hb : base ≤ w.heap.size) (cur : Array Value) (hc : cur.size = 0) : OwnF (w.alloc (.cells cur 29)) base (.slice (some ⟨w.heap.size, 0, none⟩) 0 0) 0 [] :=
  World.ownsRow_made w cur 0 hb (by unfold maxLen; omega) (by omega)

set_option maxHeartbeats 4000000 in
theorem sriseByMeans_any (b o c b' o' c' : Nat) (xs ws : List Int) (w : World) (h : RowI w b o xs) (h' : RowI w b' o' ws) (hv : vlB xs ws = true) (hm : xs.length ≤ 1099511627776) (hm' : ws.length ≤ 1099511627776) :
    Calls Try.prog 40 #[.slice (some ⟨b, o, none⟩) xs.length c, .slice (some ⟨b', o', none⟩) ws.length c'] w
      fun e w' => ∃ v, e = .returned v ∧ Mut 29 w' w.heap.size v xs.length (fc (rbm xs ws)) ∧ Below w.heap.size w w' := by
  have HV := Lib.hid (vl_of hv)
  have hn0 := HV.out.n0
  have hn8 := HV.out.n8
  have H := Lib.hid h
  have H' := Lib.hid h'
  clear h h'
  go_enter Try.func40, Try.ntmps40
  go_wp2_with (go_at_call 64; refine (svalidLoads_any b o c b' o' c' xs ws _ H.out H'.out hm hm').mono ?_; rintro e w1 ⟨rfl, rfl⟩)
  go_loopw [5, 6] (fun v5 v6 wr => ∃ k : Nat, k ≤ xs.length ∧ v6 = .int .i64 k ∧ OwnF wr w.heap.size v5 k (tab (bestQ xs ws) k) ∧ Below w.heap.size w wr)
    (fun _ v6 _ => xs.length - (intOf v6).toNat)
  case atStart => exact ⟨0, Nat.zero_le _, rfl, OwnF.empty _ _ (Nat.le_refl _) _ rfl, by (repeat' (first | (with_reducible exact Below.refl _ _) | (with_reducible assumption) | (with_reducible refine Below.drewN ?_ _) | (with_reducible refine Below.alloc ?_ ?_ _) | (with_reducible refine Below.drew ?_) | (with_reducible refine Below.setCell ?_ ?_ _) | (with_reducible refine Below.trans ?_ (Below.mono (by assumption) ?_)) | go_size | (with_reducible refine Nat.le_trans ?_ (Below.size (by assumption)))))⟩
  case round =>
    obtain ⟨k, hk, rfl, hown, hb⟩ := hrel
    have HO := Lib.hid hown
    clear hown
    by_cases hlt : k < xs.length
    · obtain ⟨wo, rfl⟩ : ∃ wo : World, wo = wr := ⟨_, rfl⟩
      have hzo := hb.size
      go_wp2_with fail
      go_loopw [8] (fun v8 wr => ∃ i : Nat, i ≤ k + 1 ∧ v8 = .int .i64 i ∧ (∃ u d : Int, (i = 0 → d = 0) ∧ (0 < i → u = up (mxQ (tab (lowQ xs ws k) (k + 1)) (i - 1)) ∧ d = dn (mxQ (tab (lowQ xs ws k) (k + 1)) (i - 1))) ∧ Blk wr wo.heap.size 29 [.int .i64 u, .int .i64 d]) ∧
        Below wo.heap.size wo wr) (fun v8 _ => k + 1 - (intOf v8).toNat)
      case atStart => exact ⟨0, Nat.zero_le _, rfl, ⟨0, 0, fun _ => rfl, fun h => absurd h (Nat.lt_irrefl _), Blk.made wo #[.int .i64 0, .int .i64 0] 29⟩, by (repeat' (first | (with_reducible exact Below.refl _ _) | (with_reducible assumption) | (with_reducible refine Below.drewN ?_ _) | (with_reducible refine Below.alloc ?_ ?_ _) | (with_reducible refine Below.drew ?_) | (with_reducible refine Below.setCell ?_ ?_ _) | (with_reducible refine Below.trans ?_ (Below.mono (by assumption) ?_)) | go_size | (with_reducible refine Nat.le_trans ?_ (Below.size (by assumption)))))⟩
      case round =>
        obtain ⟨i, hi, rfl, ⟨u, d, hu0, hu1, hbk⟩, hbi⟩ := hrel
        have U0 := Lib.hid hu0
        have U1 := Lib.hid hu1
        have HBK := Lib.hid hbk
        have hl7 := hbk.lt
        clear hu0 hu1 hbk
        have hzi := hbi.size
        by_cases hik : i ≤ k
        · obtain ⟨wi, rfl⟩ : ∃ wi : World, wi = wr := ⟨_, rfl⟩
          obtain ⟨p, hp⟩ : ∃ p, mq xs ws ((i : Nat) : Int).toNat ((k : Nat) : Int).toNat = p := ⟨_, rfl⟩
          have HP := Lib.hid hp
          clear hp
          have hbw : Below w.heap.size w wi := hb.trans (hbi.mono hzo)
          go_wp2_with (go_at_call 72; refine (smean_as b o c b' o' c' xs ws _ _ p _ (H.out.below hbw) (H'.out.below hbw) HV.out (by omega) (by omega) (by omega) HP.out).mono ?_; rintro e w3 ⟨rfl, hb3⟩; have hz3 := hb3.size)
          obtain ⟨M, hM⟩ : ∃ M, tab (fun m => mq xs ws i (k + m)) (xs.length - k) = M := ⟨_, rfl⟩
          have hMl : M.length = xs.length - k := by rw [← hM, tab_length]
          have hMg : ∀ m, m < xs.length - k → gq M m = mq xs ws i (k + m) := fun m h => by rw [← hM]; exact gq_tab h
          have hMs : SmAll 1200 40 M := by rw [← hM]; exact SmAll.tab fun j hj => mq_sm HV.out (by omega) (by omega)
          have hM0 : mnQ M 0 = p := by rw [← HP.out]; exact hMg 0 (by omega)
          have HM := Lib.hid hM
          have HL := Lib.hid hMl
          have HG := Lib.hid hMg
          have HS := Lib.hid hMs
          have HM0 := Lib.hid hM0
          clear hM hMl hMg hMs hM0
          go_loopw [10] (fun v10 wr => ∃ m : Nat, k + 1 + m ≤ xs.length ∧ v10 = .int .i64 ((k + 1 + m : Nat) : Int) ∧ Blk wr w3.heap.size 29 (fc [mnQ M m]) ∧ Below w3.heap.size w3 wr) (fun v10 _ => xs.length - (intOf v10).toNat)
          case atStart => exact ⟨0, by omega, by go_num, by rw [HM0.out]; exact Blk.made w3 #[.int .i64 (up p), .int .i64 (dn p)] 29, by (repeat' (first | (with_reducible exact Below.refl _ _) | (with_reducible assumption) | (with_reducible refine Below.drewN ?_ _) | (with_reducible refine Below.alloc ?_ ?_ _) | (with_reducible refine Below.drew ?_) | (with_reducible refine Below.setCell ?_ ?_ _) | (with_reducible refine Below.trans ?_ (Below.mono (by assumption) ?_)) | go_size | (with_reducible refine Nat.le_trans ?_ (Below.size (by assumption)))))⟩
          case round =>
            obtain ⟨m, hmn, rfl, hbk9, hbm⟩ := hrel
            have hzm := hbm.size
            have hl9 := hbk9.lt
            obtain ⟨lo, hlo⟩ : ∃ lo, mnQ M m = lo := ⟨_, rfl⟩
            rw [hlo] at hbk9
            have d1 := hbk9.f0 (k := 0) (by simp)
            have d2 := hbk9.f1 (k := 0) (by simp)
            simp only [Nat.zero_mul, Nat.zero_add, show gq [lo] 0 = lo from rfl] at d1 d2
            have f1 := hbk9.frozen 0
            have f2 := hbk9.frozen 1
            have HB9 := Lib.hid hbk9
            have HLO := Lib.hid hlo
            clear hbk9 hlo
            have hbw3 : Below w.heap.size w wr := (hbw.trans (hb3.mono (by omega))).trans (hbm.mono (by omega))
            obtain ⟨x, hx⟩ : ∃ x, k + 1 + m = x := ⟨_, rfl⟩
            have hkx : k + 1 ≤ x := by omega
            rw [hx] at hmn
            rw [hx]
            have HX := Lib.hid hx
            clear hx
            by_cases hxn : x < xs.length
            · obtain ⟨q, hq⟩ : ∃ q, mq xs ws ((i : Nat) : Int).toNat ((x : Nat) : Int).toNat = q := ⟨_, rfl⟩
              have s1 : Sm 1200 40 q := by rw [← hq]; exact mq_sm HV.out (by omega) (by omega)
              have s2 : Sm 1200 40 lo := by rw [← HLO.out]; exact mnQ_sm HS.out _ (by have := HL.out; have := HX.out; omega)
              have s3 := sm_mul s1 s2
              have S2 := Lib.hid (show ((up q).natAbs : Int) * dn lo + (up lo).natAbs * dn q ≤ 4611686018427387904 by omega)
              have hst : mnQ M (m + 1) = if q < lo then q else lo := by
                have e1 : gq M (m + 1) = q := by rw [HG.out (m + 1) (by have := HX.out; omega), ← hq, show k + (m + 1) = x from by have := HX.out; omega]; rfl
                simp only [mnQ, e1, HLO.out]
              have HST := Lib.hid hst
              have HQ := Lib.hid hq
              clear hq s1 s2 s3 hst
              cases hcmp : decide (q < lo) with
              | true =>
                go_wp2_with (first
                  | (go_at_call 72; refine (smean_as b o c b' o' c' xs ws _ _ q _ (H.out.below hbw3) (H'.out.below hbw3) HV.out (by omega) (by omega) (by omega) HQ.out).mono ?_; rintro e w4 ⟨rfl, hb4⟩; have hz4 := hb4.size; have x1 := keepC hb4 d1; have x2 := keepC hb4 d2; have x3 := keepF hb4 hl9 f1; have x4 := keepF hb4 hl9 f2; have hl4 : w3.heap.size < w4.heap.size := (by omega))
                  | (go_at_call 73; refine (sless_any q lo _ S2.out).mono ?_; rintro e w5 ⟨rfl, hb5⟩; have hz5 := hb5.size; have y1 := keepC hb5 (b := w4.heap.size) (o := 0) (v := .int .i64 (up q)) (by simp [go_sem]); have y2 := keepC hb5 (b := w4.heap.size) (o := 1) (v := .int .i64 (dn q)) (by simp [go_sem]); have y3 := keepC hb5 (b := w3.heap.size) (o := 0) (v := .int .i64 (up lo)) (by simp [go_sem, hl4, x1]); have y4 := keepC hb5 (b := w3.heap.size) (o := 1) (v := .int .i64 (dn lo)) (by simp [go_sem, hl4, x2]); have y5 := keepF hb5 (b := w3.heap.size) (o := 0) (by simp; omega) (by simp [go_sem, hl4, x3]); have y6 := keepF hb5 (b := w3.heap.size) (o := 1) (by simp; omega) (by simp [go_sem, hl4, x4])))
                go_roundw
                case rel =>
                  have hb6 : Below wr.heap.size wr w5 := (hb4.alloc hz4 _).trans (hb5.mono (by simp; omega))
                  exact ⟨m + 1, by have := HX.out; omega, by have := HX.out; go_num, by rw [HST.out, if_pos (of_decide_eq_true hcmp)]; exact ((HB9.out.below hb6).set 0 _).set 1 _, ((hbm.trans (hb6.mono hzm)).setCell (by simp) _).setCell (by simp) _⟩
                case measure => simp [intOf]; omega
              | false =>
                go_wp2_with (first
                  | (go_at_call 72; refine (smean_as b o c b' o' c' xs ws _ _ q _ (H.out.below hbw3) (H'.out.below hbw3) HV.out (by omega) (by omega) (by omega) HQ.out).mono ?_; rintro e w4 ⟨rfl, hb4⟩; have hz4 := hb4.size; have x1 := keepC hb4 d1; have x2 := keepC hb4 d2; have hl4 : w3.heap.size < w4.heap.size := (by omega))
                  | (go_at_call 73; refine (sless_any q lo _ S2.out).mono ?_; rintro e w5 ⟨rfl, hb5⟩; have hz5 := hb5.size))
                go_roundw
                case rel =>
                  have hb6 : Below wr.heap.size wr w5 := (hb4.alloc hz4 _).trans (hb5.mono (by simp; omega))
                  exact ⟨m + 1, by have := HX.out; omega, by have := HX.out; go_num, by rw [HST.out, if_neg (of_decide_eq_false hcmp)]; exact HB9.out.below hb6, hbm.trans (hb6.mono hzm)⟩
                case measure => simp [intOf]; omega
            · have hmn2 : m = xs.length - k - 1 := by have := HX.out; omega
              have hlow : lo = lowQ xs ws k i := by rw [← HLO.out, ← HM.out, hmn2]; rfl
              have s2 : Sm 1200 40 lo := by rw [hlow]; exact lowQ_sm HV.out hik hlt
              have hbi3 : Below wi.heap.size wi wr := hb3.trans (hbm.mono hz3)
              have hbk7 := HBK.out.below hbi3
              have c1 := hbk7.cell (j := 0) rfl
              have c2 := hbk7.cell (j := 1) rfl
              have g1 := hbk7.frozen 0
              have g2 := hbk7.frozen 1
              have hl7b := hbk7.lt
              have HB7 := Lib.hid hbk7
              have HLW := Lib.hid hlow
              clear hbk7 hmn2 hlow
              obtain ⟨L, hL⟩ : ∃ L, tab (lowQ xs ws k) (k + 1) = L := ⟨_, rfl⟩
              have hLi : gq L i = lo := by rw [← hL, gq_tab (by omega)]; exact HLW.out.symm
              by_cases hi0 : i = 0
              · have hd0 : d = 0 := U0.out hi0
                have ht : (d == 0) = true := by rw [hd0]; rfl
                have HD := Lib.hid hd0
                have HI := Lib.hid hi0
                have HLI := Lib.hid hLi
                have HLL := Lib.hid hL
                clear hd0 hi0 hLi hL
                go_wp2_with fail
                go_roundw
                case rel =>
                  exact ⟨i + 1, by omega, by go_num, ⟨up lo, dn lo, fun h => absurd h (by omega), fun _ => by rw [HLL.out, show i + 1 - 1 = 0 from by have := HI.out; omega]; have := HLI.out; rw [HI.out] at this; simp [mxQ, this], (HB7.out.set 0 _).set 1 _⟩, ((hbi.trans (hbi3.mono hzi)).setCell (by simp) _).setCell (by simp) _⟩
                case measure => simp [intOf]; omega
              · obtain ⟨be, hbe⟩ : ∃ be, mxQ L (i - 1) = be := ⟨_, rfl⟩
                have hud := U1.out (by omega)
                rw [hL, hbe] at hud
                obtain ⟨rfl, rfl⟩ := hud
                have hdp := dn_pos be
                have ht : (dn be == 0) = false := by rw [beq_eq_false_iff_ne]; omega
                have s1 : Sm 1200 40 be := by rw [← hbe, ← hL]; exact mxQ_sm (SmAll.tab fun j hj => lowQ_sm HV.out (by omega) hlt) _ (by rw [tab_length]; omega)
                have s3 := sm_mul s1 s2
                have S2 := Lib.hid (show ((up be).natAbs : Int) * dn lo + (up lo).natAbs * dn be ≤ 4611686018427387904 by omega)
                have hst : mxQ L i = if be < lo then lo else be := by
                  obtain ⟨j, rfl⟩ : ∃ j, i = j + 1 := ⟨i - 1, by omega⟩
                  simp only [Nat.add_sub_cancel] at hbe
                  simp only [mxQ, hLi, hbe]
                have HST := Lib.hid hst
                have HLL := Lib.hid hL
                clear hbe hLi hL s1 s2 s3 hst hdp
                cases hcmp : decide (be < lo) with
                | true =>
                  go_wp2_with (go_at_call 73; refine (sless_any be lo _ S2.out).mono ?_; rintro e w5 ⟨rfl, hb5⟩; have hz5 := hb5.size; have y1 := keepC hb5 c1; have y2 := keepC hb5 c2; have y3 := keepF hb5 hl7b g1; have y4 := keepF hb5 hl7b g2; have y5 := keepC hb5 d1; have y6 := keepC hb5 d2)
                  go_roundw
                  case rel =>
                    exact ⟨i + 1, by omega, by go_num, ⟨up lo, dn lo, fun h => absurd h (by omega), fun _ => by rw [HLL.out, show i + 1 - 1 = i from by omega, HST.out, if_pos (of_decide_eq_true hcmp)]; exact ⟨rfl, rfl⟩, ((HB7.out.below hb5).set 0 _).set 1 _⟩, (((hbi.trans (hbi3.mono hzi)).trans (hb5.mono (by omega))).setCell (by simp) _).setCell (by simp) _⟩
                  case measure => simp [intOf]; omega
                | false =>
                  go_wp2_with (go_at_call 73; refine (sless_any be lo _ S2.out).mono ?_; rintro e w5 ⟨rfl, hb5⟩; have hz5 := hb5.size)
                  go_roundw
                  case rel =>
                    exact ⟨i + 1, by omega, by go_num, ⟨up be, dn be, fun h => absurd h (by omega), fun _ => by rw [HLL.out, show i + 1 - 1 = i from by omega, HST.out, if_neg (of_decide_eq_false hcmp)]; exact ⟨rfl, rfl⟩, HB7.out.below hb5⟩, (hbi.trans (hbi3.mono hzi)).trans (hb5.mono (by omega))⟩
                  case measure => simp [intOf]; omega
        · have hik2 : i = k + 1 := by omega
          obtain ⟨q, hq⟩ : ∃ q, mxQ (tab (lowQ xs ws k) (k + 1)) (i - 1) = q := ⟨_, rfl⟩
          have hud := U1.out (by omega)
          rw [hq] at hud
          obtain ⟨rfl, rfl⟩ := hud
          have hql : q = bestQ xs ws k := by rw [← hq, hik2]; rfl
          have HQ := Lib.hid hql
          have c1 := HBK.out.cell (j := 0) rfl
          have c2 := HBK.out.cell (j := 1) rfl
          clear hq hql hik2
          go_wp2_with (at_builtin; refine wpList_app1 rfl (.tmp 59) (.tmp 61) 37 rfl w.heap.size 29 (.agg #[.int .i64 0, .int .i64 0]) 2 16 Try.underlying37 infoF rfl (by decide) (by decide) _ _ _ rfl (World.ownsRow.alloc (HO.out.below hbi) _) ⟨wr.heap.size, 0, none⟩ 1 [.int .i64 (up q), .int .i64 (dn q)] rfl rfl (cell_two_new _ _ _ _) (by simp [Value.oneCell']) (by omega) (by simp; omega) ?_; intro g2 cap2 w4 o1 o2 o3)
          go_roundw
          case rel =>
            exact ⟨k + 1, by omega, by go_num, by rw [tab_succ, ← HQ.out]; exact OwnF.app o1, ((hb.trans (hbi.mono hzo)).alloc (by omega) _).trans (Below.app (World.ownsRow.alloc (HO.out.below hbi) _) (by simp; omega) o2)⟩
          case measure => simp [intOf]; omega
    · have hkn : k = xs.length := by omega
      have hk0 : k ≠ 0 := by omega
      obtain ⟨g, cap, rfl, hg⟩ := HO.out.shape hk0
      go_wp2_with fail
      go_ret
      exact ⟨_, rfl, by rw [← hkn]; exact .inr ⟨g, cap, rfl, hg, by have := HO.out.blk; unfold rbm; rw [← hkn]; exact this⟩, hb⟩

end Go.Proofs.Ytcmbfkdhfdiamaa
