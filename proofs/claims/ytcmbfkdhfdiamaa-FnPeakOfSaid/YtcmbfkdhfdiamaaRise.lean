/- impl.rise: the means of the blocks. -/
import Derived.Test.YtcmbfkdhfdiamaaAsc
import Derived.Test.YtcmbfkdhfdiamaaAppF
import Derived.Test.YtcmbfkdhfdiamaaBlocks
namespace Go.Proofs.Ytcmbfkdhfdiamaa
open Go.RowKit

set_option maxHeartbeats 4000000 in
theorem rise_any (b o c b' o' c' : Nat) (xs ws : List Int) (w : World) (h : RowI w b o xs) (h' : RowI w b' o' ws) (hv : Vl xs ws) :
    Calls Try.prog 75 #[.slice (some ⟨b, o, none⟩) xs.length c, .slice (some ⟨b', o', none⟩) ws.length c'] w
      fun e w' => ∃ v, e = .returned v ∧ Mut 29 w' w.heap.size v xs.length (fc (rbb xs ws)) ∧ Below w.heap.size w w' := by
  have hn8 := hv.n8
  have hn0 := hv.n0
  have HV := Lib.hid hv
  have H := Lib.hid h
  have H' := Lib.hid h'
  obtain ⟨i0, hi, hz0, hz1, hz2⟩ := info_parts infoF
  have hpl := poolR_length xs ws xs.length
  have hd := poolR_dec1 (xs := xs) (ws := ws)
  have h0 := poolR_first (xs := xs) (ws := ws) hn0
  obtain ⟨R, hR⟩ : ∃ R, poolR xs ws xs.length = R := ⟨_, rfl⟩
  obtain ⟨m, hm⟩ : ∃ m, R.length = m := ⟨_, rfl⟩
  rw [hR, hm] at hpl
  rw [hR] at hd h0
  have HR := Lib.hid hR
  have HM := Lib.hid hm
  have HD := Lib.hid hd
  have HZ := Lib.hid h0
  clear h h' hv hR hm hd h0
  go_enter Try.func75, Try.ntmps75
  go_wp2_with (first
    | (at_make; refine wpList_make_full _ rfl _ _ 37 rfl w.heap.size 29 i0 (.agg #[.int .i64 0, .int .i64 0]) 2 Try.underlying37 hi hz0 hz1 .i64 .i64 _ _ xs.length rfl rfl rfl rfl (by rw [hz2]; omega) (by unfold maxLen; omega) (Nat.le_refl _) ?_; intro w2 o2 g2; have hb2 : Below w.heap.size w w2 := (Below.refl _ _).grown g2 (Nat.le_refl _) (fun k hk => by cases hk))
    | (go_at_call 63; refine (blocks_any b o c b' o' c' xs ws _ (H.out.below hb2) (H'.out.below hb2) HV.out).mono ?_; rintro e w3 ⟨g3, rfl, hg3, hr3, hb3⟩; rw [HR.out, HM.out]; rw [HR.out] at hr3; have hr4 := hr3.below ((Below.refl _ _).alloc (Nat.le_refl _) (.cells #[.int .i64 xs.length] 3)))
    | (at_builtin; refine wpList_app_full rfl (.tmp 15) (.tmp 18) 23 rfl (.int .i64 0) 8 Try.underlying23 infoI rfl (by decide) ⟨g3, 0, none⟩ m (ic (lst R)) rfl (by rw [ic_length, lst_length, HM.out, Nat.mul_one]) hr4.cells ⟨w3.heap.size, 0, none⟩ 1 [.int .i64 xs.length] rfl rfl (cell_one_new _ _ _) (by omega) ?_; intro cap w4 o4 hb4))
  obtain ⟨cs0, hcs0⟩ : ∃ cs, (madeCells (Value.agg #[.int .i64 0, .int .i64 0]).cells (xs.length * 2)).toList = cs := ⟨_, rfl⟩
  have hcl : cs0.length = xs.length * 2 := by rw [← hcs0, Array.length_toList, size_madeCells]
  have hz2' := hb2.size
  have hz3 := hb3.size
  have hz4 := hb4.size
  simp only [World.size_alloc] at hz4
  have hl2 : w.heap.size < w2.heap.size := (Blk.of_own o2).1.lt
  have hbk := (((Blk.of_own o2).1.below hb3).below ((Below.refl _ _).alloc (Nat.le_refl _) (.cells #[.int .i64 xs.length] 3))).below hb4
  rw [hcs0] at hbk
  have hbf := (Blk.of_own o4).1
  rw [ic_append, ← lst_cons] at hbf
  have hb5 : Below w.heap.size w w4 := ((hb2.trans (hb3.mono (by omega))).alloc (by omega) _).trans (hb4.mono (by simp only [World.size_alloc]; omega))
  obtain ⟨g6, hg6⟩ : ∃ g6, w3.heap.size + 1 = g6 := ⟨_, rfl⟩
  simp only [World.size_alloc] at hbf ⊢
  rw [hg6] at hbf ⊢
  have hg6' : w.heap.size < g6 := by omega
  have HBF := Lib.hid hbf
  have HBK := Lib.hid hbk
  have HCL := Lib.hid hcl
  have HB5 := Lib.hid hb5
  clear o2 o4 g2 hb2 hb3 hb4 hr3 hr4 hcs0 hbk hbf hcl hb5 hi hz0 hz1 hz2 hg3 hg6
  have q1 : IntKind.i64.wrap ((m : Int) + 1 - 1) = (m : Int) := by rw [IntWalk.i64_in _ (by omega)]; omega
  go_loopw [23] (fun v23 wr => ∃ i : Nat, i ≤ m ∧ v23 = .int .i64 i ∧ (∃ cs : List Value, cs.length = xs.length * 2 ∧ (∀ j, j < bd (xs.length :: R) i * 2 → cs[j]? = (fc (rbb xs ws))[j]?) ∧ Blk wr w.heap.size 29 cs) ∧ Blk wr g6 3 (ic (lst (xs.length :: R))) ∧ Below w.heap.size w wr)
    (fun v23 _ => m - (intOf v23).toNat)
  case atStart => exact ⟨0, Nat.zero_le _, rfl, ⟨cs0, HCL.out, fun j hj => absurd hj (by rw [HZ.out]; omega), HBK.out⟩, HBF.out, HB5.out⟩
  case round =>
    clear HBF HBK HCL HB5
    obtain ⟨i, hi, rfl, ⟨cs, hc1, hc2, hc3⟩, hbf, hb⟩ := hrel
    have H1 := Lib.hid hc1
    have H2 := Lib.hid hc2
    have H3 := Lib.hid hc3
    have HF := Lib.hid hbf
    have HB := Lib.hid hb
    have hz := hb.size
    clear hc1 hc2 hc3
    by_cases hlt0 : i < m
    · have hlt : i < R.length := by rw [HM.out]; exact hlt0
      obtain ⟨lo, hlo⟩ : ∃ lo, bd (xs.length :: R) i = lo := ⟨_, rfl⟩
      obtain ⟨hi', hhi⟩ : ∃ hi', bd (xs.length :: R) (i + 1) = hi' := ⟨_, rfl⟩
      have hlh : lo < hi' := by rw [← hlo, ← hhi]; exact bd_up HD.out (by omega) i hlt
      have hhb : hi' ≤ xs.length := by rw [← hhi]; exact bd_bound HD.out _ hlt
      have hbq : ∀ j, lo ≤ j → j < hi' → gq (rbb xs ws) j = mq xs ws lo (hi' - 1) := fun j h1 h2 => by
        unfold rbb
        rw [gq_tab (by omega), HR.out, ← hlo, ← hhi]
        exact bmq_eq HD.out hlt (by rw [hlo]; exact h1) (by rw [hhi]; exact h2)
      have hlL : (lst (xs.length :: R)).length = m + 1 := by rw [lst_length, List.length_cons, HM.out]
      have c1 := hbf.cell (get_ic (k := i) (by omega))
      have c2 := hbf.cell (get_ic (k := i + 1) (by omega))
      rw [gi_bd (by rw [List.length_cons, HM.out]; omega), hlo] at c1
      rw [gi_bd (by rw [List.length_cons, HM.out]; omega), hhi] at c2
      rw [hlo] at H2
      obtain ⟨p, hp⟩ : ∃ p, mq xs ws ((lo : Nat) : Int).toNat ((hi' : Int) - 1).toNat = p := ⟨_, rfl⟩
      have hq : ∀ j, lo ≤ j → j < hi' → gq (rbb xs ws) j = p := fun j h1 h2 => by rw [hbq j h1 h2, ← hp, show ((hi' : Int) - 1).toNat = hi' - 1 from by omega]; rfl
      have HP := Lib.hid hp
      have HQ := Lib.hid hq
      have HHI := Lib.hid hhi
      have hlf := hbf.lt
      clear hbq hlo hhi hp hq hbf hb
      have hb := Lib.hid HB.out
      have qh : IntKind.i64.wrap ((hi' : Int) - 1) = (hi' : Int) - 1 := IntWalk.i64_in _ (by omega)
      have qi : IntKind.i64.wrap ((i : Int) + 1) = (i : Int) + 1 := IntWalk.i64_in _ (by omega)
      have qn : ((i : Int) + 1).toNat = i + 1 := by omega
      have q5 : (0 : Int) ≤ (i : Int) + 1 := by omega
      have q6 : (i : Int) + 1 < (m : Int) + 1 := by omega
      have q7 : (i : Int) < (m : Int) + 1 := by omega
      have q8 : (0 : Int) ≤ (i : Int) := by omega
      go_upto_region 6 with fail
      go_cut [8] (fun s8 wx => ∃ g8, s8 = .pointer (some ⟨g8, 0, none⟩) ∧ wr.heap.size ≤ g8 ∧ Blk wx g8 29 (fc [p]) ∧ Below wr.heap.size wr wx)
      case first =>
        go_region_held3 (fun w' => w'.cell? ⟨g6, i, none⟩ = some (.int .i64 lo) ∧ w'.cell? ⟨g6, i + 1, none⟩ = some (.int .i64 hi') ∧ Below w.heap.size w w')
          ((exact keepS2 (W := wr) (by (repeat' (first | (with_reducible exact Below.refl _ _) | (with_reducible assumption) | (with_reducible refine Below.drewN ?_ _) | (with_reducible refine Below.alloc ?_ ?_ _) | (with_reducible refine Below.drew ?_) | (with_reducible refine Below.setCell ?_ ?_ _) | (with_reducible refine Below.trans ?_ (Below.mono (by assumption) ?_)) | go_size | (with_reducible refine Nat.le_trans ?_ (Below.size (by assumption)))))) ⟨c1, c2, hb.out⟩))
          ((first
            | (go_at_call 66; have hS : _ ∧ _ ∧ Below w.heap.size w _ := (by assumption); refine (mean_as b o c b' o' c' xs ws _ _ p _ (H.out.below hS.2.2) (H'.out.below hS.2.2) HV.out (by omega) (by omega) (by omega) HP.out).mono ?_; rintro e w1 ⟨rfl, hb1⟩; obtain ⟨hc1, hf1⟩ := bcell hb1; have hz1 := hb1.size)))
        all_goals go_wp2_with fail
        all_goals go_meet
        · exact ⟨_, rfl, by first | omega | (simp only [World.size_drew] at hz1; omega), by first | exact Blk.made _ _ _ | exact (((Blk.made wr.drew #[.int .i64 0, .int .i64 0] 29).below hb1).set 0 _).set 1 _ | exact ((Blk.below (Blk.made wr #[.int .i64 0, .int .i64 0] 29) hb1).set 0 _).set 1 _, by (repeat' (first | (with_reducible exact Below.refl _ _) | (with_reducible assumption) | (with_reducible refine Below.drewN ?_ _) | (with_reducible refine Below.alloc ?_ ?_ _) | (with_reducible refine Below.drew ?_) | (with_reducible refine Below.setCell ?_ ?_ _) | (with_reducible refine Below.trans ?_ (Below.mono (by assumption) ?_)) | go_size | (with_reducible refine Nat.le_trans ?_ (Below.size (by assumption)))))⟩
        · exact ⟨_, rfl, by first | omega | (simp only [World.size_drew] at hz1; omega), by first | exact Blk.made _ _ _ | exact (((Blk.made wr.drew #[.int .i64 0, .int .i64 0] 29).below hb1).set 0 _).set 1 _ | exact ((Blk.below (Blk.made wr #[.int .i64 0, .int .i64 0] 29) hb1).set 0 _).set 1 _, by (repeat' (first | (with_reducible exact Below.refl _ _) | (with_reducible assumption) | (with_reducible refine Below.drewN ?_ _) | (with_reducible refine Below.alloc ?_ ?_ _) | (with_reducible refine Below.drew ?_) | (with_reducible refine Below.setCell ?_ ?_ _) | (with_reducible refine Below.trans ?_ (Below.mono (by assumption) ?_)) | go_size | (with_reducible refine Nat.le_trans ?_ (Below.size (by assumption)))))⟩
      case rest =>
        obtain ⟨g8, rfl, hg8, hbk8, hb8⟩ := hcut
        have hz8 := hb8.size
        have hb9 : Below w.heap.size w wc := hb.out.trans (hb8.mono hz)
        have hbf := HF.out.below hb8
        have hlow := H3.out.lt
        have hb3 := H3.out.below hb8
        have HK8 := Lib.hid hbk8
        have HB9 := Lib.hid hb9
        have HF9 := Lib.hid hbf
        have H39 := Lib.hid hb3
        have c1' := keepC hb8 c1
        clear hbk8 hb9 hbf hb3 hb8 c1 c2 HF H3 HB hb
        go_wp2_with fail
        go_loopw [9] (fun v9 wr => ∃ k : Nat, lo ≤ k ∧ k ≤ hi' ∧ v9 = .int .i64 k ∧ (∃ cs : List Value, cs.length = xs.length * 2 ∧ (∀ j, j < k * 2 → cs[j]? = (fc (rbb xs ws))[j]?) ∧ Blk wr w.heap.size 29 cs) ∧ Blk wr g6 3 (ic (lst (xs.length :: R))) ∧ Blk wr g8 29 (fc [p]) ∧ Below w.heap.size w wr)
          (fun v9 _ => hi' - (intOf v9).toNat)
        case atStart => exact ⟨lo, Nat.le_refl _, Nat.le_of_lt hlh, rfl, ⟨cs, H1.out, H2.out, H39.out⟩, HF9.out, HK8.out, HB9.out⟩
        case round =>
          clear H1 H2 H39 HF9 HK8 HB9 c1'
          obtain ⟨k, hk1, hk2, rfl, ⟨cs, hc1, hc2, hc3⟩, hbf, hbk, hb⟩ := hrel
          have H1 := Lib.hid hc1
          have H2 := Lib.hid hc2
          have H3 := Lib.hid hc3
          have HF := Lib.hid hbf
          have HK := Lib.hid hbk
          have HB := Lib.hid hb
          have c2 := hbf.cell (get_ic (k := i + 1) (by omega))
          rw [gi_bd (by rw [List.length_cons, HM.out]; omega), HHI.out] at c2
          have hlf' := hbf.lt
          have hlk := hbk.lt
          have hlw := hc3.lt
          have hz := hb.size
          by_cases hkl : k < hi'
          · have d1 := hbk.f0 (k := 0) (by simp)
            have d2 := hbk.f1 (k := 0) (by simp)
            simp only [Nat.zero_mul, Nat.zero_add, show gq [p] 0 = p from rfl] at d1 d2
            obtain ⟨u, hu⟩ : ∃ u, cs[k * 2]? = some u := ⟨cs[k * 2]'(by have := H1.out; omega), List.getElem?_eq_getElem _⟩
            obtain ⟨u2, hu2⟩ : ∃ u, cs[k * 2 + 1]? = some u := ⟨cs[k * 2 + 1]'(by have := H1.out; omega), List.getElem?_eq_getElem _⟩
            have x1 := hc3.cell hu
            have x2 := hc3.cell hu2
            have f1 := hc3.frozen (k * 2)
            have f2 := hc3.frozen (k * 2 + 1)
            clear hc1 hc2 hc3 hbf hbk hb hu hu2
            go_wp2
            go_roundw
            case rel =>
              have hl1 := H1.out
              have e0 := get_fc0 (fs := rbb xs ws) (k := k) (by unfold rbb; rw [tab_length]; omega)
              have e1 := get_fc1 (fs := rbb xs ws) (k := k) (by unfold rbb; rw [tab_length]; omega)
              have e2 := HQ.out k hk1 hkl
              rw [e2] at e0 e1
              refine ⟨k + 1, by omega, by omega, by go_num, ⟨(cs.set (k * 2) (.int .i64 (up p))).set (k * 2 + 1) (.int .i64 (dn p)), by rw [List.length_set, List.length_set]; exact hl1, fun j hj => ?_, (H3.out.set _ _).set _ _⟩,
                ?_, ?_, (HB.out.setCell (by simp) _).setCell (by simp) _⟩
              by_cases e : j = k * 2 + 1
              · subst e
                rw [e1, List.getElem?_set_self (by rw [List.length_set]; omega)]
              · rw [List.getElem?_set_ne (fun h => e h.symm)]
                by_cases e3 : j = k * 2
                · subst e3
                  rw [e0, List.getElem?_set_self (by omega)]
                · rw [List.getElem?_set_ne (fun h => e3 h.symm)]
                  exact H2.out j (by omega)
              · exact (HF.out.other _ (by simp; omega)).other _ (by simp; omega)
              · exact (HK.out.other _ (by simp; omega)).other _ (by simp; omega)
            case measure => simp [intOf]; omega
          · have hkh : k = hi' := by omega
            have HKH := Lib.hid hkh
            clear hkh hc1 hc2 hc3 hbf hbk hb
            go_wp2
            go_roundw
            case rel =>
              exact ⟨i + 1, by omega, by go_num, ⟨cs, H1.out, by rw [HHI.out, ← HKH.out]; exact H2.out, H3.out⟩, HF.out, HB.out⟩
            case measure => simp [intOf]; omega
    · have him : i = R.length := by rw [HM.out]; omega
      have e : bd (xs.length :: R) i = xs.length := by rw [him]; exact bd_cons_eq
      have e1 : cs = fc (rbb xs ws) := by
        have hl1 := H1.out
        have h2 := H2.out
        rw [e] at h2
        have hlf : (fc (rbb xs ws)).length = xs.length * 2 := by rw [fc_length]; unfold rbb; rw [tab_length]
        apply List.ext_getElem?
        intro j
        by_cases hj : j < xs.length * 2
        · exact h2 j hj
        · rw [List.getElem?_eq_none (by omega), List.getElem?_eq_none (by omega)]
      have E1 := Lib.hid e1
      clear e1 e him hbf hb
      go_wp2_with fail
      go_ret
      exact ⟨_, rfl, .inr ⟨_, _, rfl, Nat.le_refl _, by rw [← E1.out]; exact H3.out⟩, HB.out⟩

end Go.Proofs.Ytcmbfkdhfdiamaa
