/- Rows that rise, by means: plain reckoning and the program's walk. -/
import Derived.Test.YtcmbfkdhfdiamaaOwnF
namespace Go.Proofs.Ytcmbfkdhfdiamaa
open Go.RowKit

def lowQ (xs ws : List Int) (x i : Nat) : Rat := mnQ (tab (fun j => mq xs ws i (x + j)) (xs.length - x)) (xs.length - x - 1)
def bestQ (xs ws : List Int) (x : Nat) : Rat := mxQ (tab (lowQ xs ws x) (x + 1)) x
def rbm (xs ws : List Int) : List Rat := tab (bestQ xs ws) xs.length

theorem lowQ_sm {xs ws : List Int} (hv : Vl xs ws) {x i : Nat} (hi : i ≤ x) (hx : x < xs.length) : Sm 1200 40 (lowQ xs ws x i) :=
  mnQ_sm (SmAll.tab fun j hj => mq_sm hv (by omega) (by omega)) _ (by rw [tab_length]; omega)
theorem bestQ_sm {xs ws : List Int} (hv : Vl xs ws) {x : Nat} (hx : x < xs.length) : Sm 1200 40 (bestQ xs ws x) :=
  mxQ_sm (SmAll.tab fun j hj => lowQ_sm hv (by omega) hx) _ (by rw [tab_length]; omega)

set_option maxHeartbeats 4000000 in
theorem riseByMeans_any (b o c b' o' c' : Nat) (xs ws : List Int) (w : World) (h : RowI w b o xs) (h' : RowI w b' o' ws) (hv : vlB xs ws = true) (hm : xs.length ≤ 1099511627776) (hm' : ws.length ≤ 1099511627776) :
    Calls Try.prog 41 #[.slice (some ⟨b, o, none⟩) xs.length c, .slice (some ⟨b', o', none⟩) ws.length c'] w
      fun e w' => ∃ v, e = .returned v ∧ Mut 29 w' w.heap.size v xs.length (fc (rbm xs ws)) ∧ Below w.heap.size w w' := by
  have HV := Lib.hid (vl_of hv)
  have hn0 := HV.out.n0
  have hn8 := HV.out.n8
  have H := Lib.hid h
  have H' := Lib.hid h'
  obtain ⟨i0, hi, hz0, hz1, hz2⟩ := info_parts infoF
  clear h h'
  go_enter Try.func41, Try.ntmps41
  go_wp2_with (first
    | (go_at_call 62; refine (validLoads_any b o c b' o' c' xs ws _ H.out H'.out hm hm').mono ?_; rintro e w1 ⟨rfl, hb1⟩)
    | (at_make; refine wpList_make_full _ rfl _ _ 37 rfl w1.heap.size 29 i0 (.agg #[.int .i64 0, .int .i64 0]) 2 Try.underlying37 hi hz0 hz1 .i64 .i64 _ _ xs.length rfl rfl rfl rfl (by rw [hz2]; omega) (by unfold maxLen; omega) (Nat.le_refl _) ?_; intro w2 o2 g2))
  have hbk := (Blk.of_own o2).1
  have hgo : w.heap.size ≤ w1.heap.size := hb1.size
  have hb2 : Below w.heap.size w w2 := hb1.grown g2 hgo (fun k hk => by cases hk)
  have hcl : ((madeCells (Value.agg #[.int .i64 0, .int .i64 0]).cells (xs.length * 2)).toList).length = xs.length * 2 := by rw [Array.length_toList, size_madeCells]
  obtain ⟨cs0, hcs0⟩ : ∃ cs, (madeCells (Value.agg #[.int .i64 0, .int .i64 0]).cells (xs.length * 2)).toList = cs := ⟨_, rfl⟩
  rw [hcs0] at hbk hcl
  have HBK := Lib.hid hbk
  have HCL := Lib.hid hcl
  have HB2 := Lib.hid hb2
  clear o2 g2 hb1 hcs0 hbk hcl hb2 hi hz0 hz1 hz2
  go_loopw [20] (fun v20 wr => ∃ k : Nat, k ≤ xs.length ∧ v20 = .int .i64 k ∧ (∃ cs : List Value, cs.length = xs.length * 2 ∧ (∀ j, j < k * 2 → cs[j]? = (fc (rbm xs ws))[j]?) ∧ Blk wr w1.heap.size 29 cs) ∧ Below w.heap.size w wr)
    (fun v20 _ => xs.length - (intOf v20).toNat)
  case atStart => exact ⟨0, Nat.zero_le _, rfl, ⟨cs0, HCL.out, fun j hj => absurd hj (by omega), HBK.out⟩, HB2.out⟩
  case round =>
    clear HBK HCL HB2
    obtain ⟨k, hk, rfl, ⟨cs, hc1, hc2, hc3⟩, hb⟩ := hrel
    have H1 := Lib.hid hc1
    have H2 := Lib.hid hc2
    have H3 := Lib.hid hc3
    clear hc1 hc2 hc3
    by_cases hlt : k < xs.length
    · obtain ⟨wo, rfl⟩ : ∃ wo : World, wo = wr := ⟨_, rfl⟩
      have hzo := hb.size
      have hgl := H3.out.lt
      go_wp2_with fail
      go_loopw [7, 8] (fun v7 v8 wr => ∃ i : Nat, i ≤ k + 1 ∧ v8 = .int .i64 i ∧ OwnF wr wo.heap.size v7 i (tab (lowQ xs ws k) i) ∧ Below wo.heap.size wo wr) (fun _ v8 _ => k + 1 - (intOf v8).toNat)
      case atStart => exact ⟨0, Nat.zero_le _, rfl, OwnF.nil _ _, Below.refl _ _⟩
      case round =>
        obtain ⟨i, hi, rfl, hown, hbi⟩ := hrel
        have HO := Lib.hid hown
        clear hown
        have hzi := hbi.size
        by_cases hik : i ≤ k
        · obtain ⟨wi, rfl⟩ : ∃ wi : World, wi = wr := ⟨_, rfl⟩
          go_wp2_with fail
          go_loopw [9, 10] (fun v9 v10 wr => ∃ m : Nat, k + m ≤ xs.length ∧ v10 = .int .i64 ((k + m : Nat) : Int) ∧ OwnF wr wi.heap.size v9 m (tab (fun j => mq xs ws i (k + j)) m) ∧ Below wi.heap.size wi wr) (fun _ v10 _ => xs.length - (intOf v10).toNat)
          case atStart => exact ⟨0, by omega, rfl, OwnF.nil _ _, Below.refl _ _⟩
          case round =>
            obtain ⟨m, hm3, rfl, hown, hbm⟩ := hrel
            have HM := Lib.hid hown
            have hzm := hbm.size
            obtain ⟨x, hx⟩ : ∃ x, k + m = x := ⟨_, rfl⟩
            have hkx : k ≤ x := by omega
            rw [hx] at hm3
            rw [hx]
            have HX := Lib.hid hx
            clear hown hx
            have hbw : Below w.heap.size w wr := (hb.trans (hbi.mono hzo)).trans (hbm.mono (by omega))
            by_cases hxn : x < xs.length
            · obtain ⟨p, hp⟩ : ∃ p, mq xs ws ((i : Nat) : Int).toNat ((x : Nat) : Int).toNat = p := ⟨_, rfl⟩
              have HP := Lib.hid hp
              clear hp
              have hml : m < 1099511627776 := by have := HX.out; omega
              go_wp2_with (first
                | (go_at_call 66; refine (mean_as b o c b' o' c' xs ws _ _ p _ (H.out.below hbw) (H'.out.below hbw) HV.out (by omega) (by omega) (by omega) HP.out).mono ?_; rintro e w3 ⟨rfl, hb3⟩; have hz3 := hb3.size)
                | (at_builtin; refine wpList_app1 rfl (.tmp 35) (.tmp 41) 37 rfl wi.heap.size 29 (.agg #[.int .i64 0, .int .i64 0]) 2 16 Try.underlying37 infoF rfl (by decide) (by decide) _ _ _ rfl (World.ownsRow.alloc (HM.out.below hb3) _) ⟨w3.heap.size, 0, none⟩ 1 [.int .i64 (up p), .int .i64 (dn p)] rfl rfl (cell_two_new _ _ _ _) (by simp [Value.oneCell']) hml (by simp; omega) ?_; intro g cap w4 o1 o2 o3))
              go_roundw
              case rel =>
                have hx' := HX.out
                have hp' : p = mq xs ws i (k + m) := by rw [← HP.out, ← hx']; rfl
                exact ⟨m + 1, by omega, by go_num, by rw [tab_succ, ← hp']; exact OwnF.app o1, ((hbm.trans (hb3.mono hzm)).alloc (by omega) _).trans (Below.app (World.ownsRow.alloc (HM.out.below hb3) _) (by simp; omega) o2)⟩
              case measure => simp [intOf]; omega
            · have hmn : m = xs.length - k := by have := HX.out; omega
              have hm0 : m ≠ 0 := by omega
              obtain ⟨g, cap, rfl, hg⟩ := HM.out.shape hm0
              have hbk := HM.out.blk
              have hsm : SmAll 1200 40 (tab (fun j => mq xs ws i (k + j)) m) := SmAll.tab fun j hj => mq_sm HV.out (by omega) (by omega)
              obtain ⟨q, hq⟩ : ∃ q, mnQ (tab (fun j => mq xs ws i (k + j)) m) (m - 1) = q := ⟨_, rfl⟩
              have hql : q = lowQ xs ws k i := by rw [← hq, hmn]; rfl
              have hmf := fun w (hw : Blk w g 29 (fc (tab (fun j => mq xs ws i (k + j)) m))) => minFunc_any 1200 40 g cap m _ w hw (tab_length _ _) (by omega) (by omega) hsm (by omega) (by omega)
              rw [hq] at hmf
              have HF := Lib.hid (hmf wr hbk)
              have HQ := Lib.hid hql
              clear hmf hq hql hsm hbk hmn
              go_wp2_with (first
                | (go_at_call 76; refine HF.out.mono ?_; rintro e w3 ⟨rfl, hb3⟩; have hz3 := hb3.size; have hbx : Below wi.heap.size wi w3 := hbm.trans (hb3.mono hzm))
                | (at_builtin; refine wpList_app1 rfl (.tmp 43) (.tmp 46) 37 rfl wo.heap.size 29 (.agg #[.int .i64 0, .int .i64 0]) 2 16 Try.underlying37 infoF rfl (by decide) (by decide) _ _ _ rfl (World.ownsRow.alloc (HO.out.below hbx) _) ⟨w3.heap.size, 0, none⟩ 1 [.int .i64 (up q), .int .i64 (dn q)] rfl rfl (cell_two_new _ _ _ _) (by simp [Value.oneCell']) (by omega) (by simp; omega) ?_; intro g2 cap2 w4 o1 o2 o3))
              go_roundw
              case rel =>
                exact ⟨i + 1, by omega, by go_num, by rw [tab_succ, ← HQ.out]; exact OwnF.app o1, ((hbi.trans (hbx.mono hzi)).alloc (by omega) _).trans (Below.app (World.ownsRow.alloc (HO.out.below hbx) _) (by simp; omega) o2)⟩
              case measure => simp [intOf]; omega
        · have hik2 : i = k + 1 := by omega
          have hi0 : i ≠ 0 := by omega
          obtain ⟨g, cap, rfl, hg⟩ := HO.out.shape hi0
          have hbk := HO.out.blk
          have hsm : SmAll 1200 40 (tab (lowQ xs ws k) i) := SmAll.tab fun j hj => lowQ_sm HV.out (by omega) hlt
          obtain ⟨q, hq⟩ : ∃ q, mxQ (tab (lowQ xs ws k) i) (i - 1) = q := ⟨_, rfl⟩
          have hql : q = bestQ xs ws k := by rw [← hq, hik2]; rfl
          have hmf := fun w (hw : Blk w g 29 (fc (tab (lowQ xs ws k) i))) => maxFunc_any 1200 40 g cap i _ w hw (tab_length _ _) (by omega) (by omega) hsm (by omega) (by omega)
          rw [hq] at hmf
          have HF := Lib.hid (hmf wr hbk)
          have HQ := Lib.hid hql
          clear hmf hq hql hsm hbk hik2
          have hbk3 := H3.out.below hbi
          obtain ⟨u, hu⟩ : ∃ u, cs[k * 2]? = some u := ⟨cs[k * 2]'(by have := H1.out; omega), List.getElem?_eq_getElem _⟩
          obtain ⟨u2, hu2⟩ : ∃ u, cs[k * 2 + 1]? = some u := ⟨cs[k * 2 + 1]'(by have := H1.out; omega), List.getElem?_eq_getElem _⟩
          have d1 := hbk3.cell hu
          have d2 := hbk3.cell hu2
          have f1 := hbk3.frozen (k * 2)
          have f2 := hbk3.frozen (k * 2 + 1)
          have hl3 := hbk3.lt
          have HB3 := Lib.hid hbk3
          clear hbk3 hu hu2
          go_wp2_with (go_at_call 78; refine HF.out.mono ?_; rintro e w3 ⟨rfl, hb3⟩; have hz3 := hb3.size; have x3 := keepC hb3 d1; have x4 := keepC hb3 d2; have x5 := keepF hb3 hl3 f1; have x6 := keepF hb3 hl3 f2)
          go_roundw
          case rel =>
            have hl1 := H1.out
            have e0 := get_fc0 (fs := rbm xs ws) (k := k) (by unfold rbm; rw [tab_length]; omega)
            have e1 := get_fc1 (fs := rbm xs ws) (k := k) (by unfold rbm; rw [tab_length]; omega)
            have e2 : gq (rbm xs ws) k = q := by rw [HQ.out]; exact gq_tab hlt
            rw [e2] at e0 e1
            refine ⟨k + 1, by omega, by go_num, ⟨(cs.set (k * 2) (.int .i64 (up q))).set (k * 2 + 1) (.int .i64 (dn q)), by rw [List.length_set, List.length_set]; exact hl1, fun j hj => ?_, ((HB3.out.below hb3).set _ _).set _ _⟩,
              ((((hb.trans (hbi.mono hzo)).trans (hb3.mono (by omega))).setCell (by simp; omega) _).setCell (by simp; omega) _)⟩
            by_cases e : j = k * 2 + 1
            · subst e
              rw [e1, List.getElem?_set_self (by rw [List.length_set]; omega)]
            · rw [List.getElem?_set_ne (fun h => e h.symm)]
              by_cases e3 : j = k * 2
              · subst e3
                rw [e0, List.getElem?_set_self (by omega)]
              · rw [List.getElem?_set_ne (fun h => e3 h.symm)]
                exact H2.out j (by omega)
          case measure => simp [intOf]; omega
    · have hkn : k = xs.length := by omega
      have hlf : (fc (rbm xs ws)).length = xs.length * 2 := by rw [fc_length]; unfold rbm; rw [tab_length]
      have e1 : cs = fc (rbm xs ws) := by
        have hl1 := H1.out
        apply List.ext_getElem?
        intro j
        by_cases hj : j < k * 2
        · exact H2.out j hj
        · rw [List.getElem?_eq_none (by omega), List.getElem?_eq_none (by omega)]
      have E1 := Lib.hid e1
      clear e1 hlf hkn
      go_wp2_with fail
      go_ret
      exact ⟨_, rfl, .inr ⟨_, _, rfl, hgo, by rw [← E1.out]; exact H3.out⟩, hb⟩

end Go.Proofs.Ytcmbfkdhfdiamaa
