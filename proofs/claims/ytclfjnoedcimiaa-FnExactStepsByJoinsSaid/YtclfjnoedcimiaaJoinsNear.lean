/- impl.joins by the closure impl.nearJoins$1. -/
import Derived.Test.YtclfjnoedcimiaaJoinF
namespace Go.Proofs.Ytclfjnoedcimiaa
open Go.RowKit

/-- What the closure returns in every world that has grown from this one. -/
def CloNear (wf : World) (n p : Nat) (F : List Int → Nat → Nat → Int × Bool) : Prop := ∀ (w' : World) (g : Nat) (G : List Int) (a b : Nat), Below wf.heap.size wf w' → Blk w' g 3 (ic G) → G.length = n → a < n → b < n →
  Calls Try.prog 60 #[.slice (some ⟨g, 0, none⟩) n n, .int .i64 a, .int .i64 b, .pointer (some ⟨p, 0, none⟩)] w' fun e w'' => e = .returned (.tuple #[.int .i64 (F G a b).1, .bool (F G a b).2]) ∧ Below w'.heap.size w' w''

set_option maxHeartbeats 4000000 in
theorem joinsNear_any (g p n : Nat) (cg : Nat) (H Cp : Nat → Nat) (xss : List (List Int)) (F : List Int → Nat → Nat → Int × Bool) (w : World) (h : MatC w g H Cp xss) (hg : Gp xss) (hn : xss.length = n) (hc : CloNear w n p F) :
    Calls Try.prog 45 #[.slice (some ⟨g, 0, none⟩) n cg, .func (.func 60) #[] #[.pointer (some ⟨p, 0, none⟩)]] w
      fun e w' => ∃ v, e = .returned v ∧ Mut 35 w' w.heap.size v (n - 1) (jc (oF F n (n - 1))) ∧ Below w.heap.size w w' := by
  have HM := Lib.hid h
  have HG := Lib.hid hg
  have n6 := hg.n6
  have n0 := hg.n0
  have HC := Lib.hid hc
  have CG := Lib.hid (groupsAt_neg g cg H Cp xss w h hg)
  rw [hn] at CG n6 n0
  clear h hg hc hn
  go_enter Try.func45, Try.ntmps45
  go_wp2_with (go_at_call 61; refine CG.out.mono ?_; rintro e w1 ⟨rfl, hk1, hb1⟩)
  have hz1 := hb1.size
  have lt1 := hk1.lt
  have HB1 := Lib.hid hb1
  have HK1 := Lib.hid hk1
  obtain ⟨g0, hg0⟩ : ∃ g0, w.heap.size = g0 := ⟨_, rfl⟩
  have HG0 := Lib.hid hg0
  rw [hg0] at HK1 hz1 lt1 ⊢
  clear hk1 hb1 hg0 CG
  go_loopw [17] (fun v17 wr => ∃ k : Nat, k ≤ n ∧ v17 = .int .i64 k ∧ Blk wr g0 3 (ic (ini n)) ∧ w1.grownBy wr (some g0)) (fun v17 _ => n - (intOf v17).toNat)
  case atStart => exact ⟨0, Nat.zero_le _, rfl, HK1.out, grownBy_refl _ _⟩
  case round =>
    obtain ⟨k, hk, rfl, hbk, hgr⟩ := hrel
    by_cases hlt : k < n
    · have hil : k < (ini n).length := by unfold ini; rw [tabI_length]; exact hlt
      have c1 := hbk.cell (get_ic hil)
      have f1 := hbk.frozen k
      have KB := Lib.hid hbk
      have GR := Lib.hid hgr
      have HI := Lib.hid (show gi (ini n) k = (k : Int) from by unfold ini; exact gi_tabI hlt)
      rw [HI.out] at c1
      have HIL := Lib.hid hil
      clear hbk hgr hil
      go_wp2_with fail
      go_roundw
      case rel =>
        refine ⟨k + 1, by omega, by go_num, ?_, grownBy_set GR.out _⟩
        have := KB.out.set k (.int .i64 (k : Int))
        have e : (ic (ini n)).set k (.int .i64 (k : Int)) = ic (ini n) := by
          apply List.ext_getElem?
          intro j
          by_cases e : j = k
          · subst e
            rw [List.getElem?_set_self (by rw [ic_length]; exact HIL.out), get_ic HIL.out, HI.out]
          · rw [List.getElem?_set_ne (fun h => e h.symm)]
        rwa [e] at this
      case measure => simp [intOf]; omega
    · have e : k = n := by omega
      have HKN := Lib.hid e
      have KB := Lib.hid hbk
      have zr := hgr.size
      have BW := Lib.hid (show Below w.heap.size w wr from HB1.out.trans ⟨hgr.os, hgr.tape, hgr.output, hgr.size, fun j hj => hgr.block j (Nat.lt_of_lt_of_le hj HB1.out.size) (fun e => by have e := Option.some.inj e; have := HG0.out; omega)⟩)
      have ltr := hbk.lt
      clear e hbk hgr HB1 HK1
      obtain ⟨w2, hw2⟩ : ∃ w2 : World, w2 = wr := ⟨_, rfl⟩
      rw [← hw2] at KB zr BW ltr
      rw [← hw2]
      clear hw2
      obtain ⟨nb, hnb⟩ : ∃ nb, w2.heap.size = nb := ⟨_, rfl⟩
      have hnb' : g0 < nb := by omega
      have NB := Lib.hid hnb
      clear hnb ltr zr lt1 hz1
      go_wp2_with fail
      go_loopw [7, 28] (fun v7 v28 wr => ∃ k : Nat, v28 = .int .i64 k ∧ k ≤ n - 1 ∧ OwnJ wr nb v7 k (oF F n k) ∧ Blk wr g0 3 (ic (gI n (oF F n k))) ∧ nb ≤ wr.heap.size ∧ Below w.heap.size w wr) (fun _ v28 _ => n - (intOf v28).toNat)
      case atStart => exact ⟨0, rfl, Nat.zero_le _, OwnJ.nil _ _, KB.out, by rw [NB.out]; exact Nat.le_refl _, BW.out⟩
      case round =>
        clear KB BW NB
        obtain ⟨r, rfl, hr, hown, hgk, hnz, hbw⟩ := hrel
        have hgl : (gI n (oF F n r)).length = n := gI_length _ _
        have hos : oF F n (r + 1) = oF F n r ++ [scAF (F (gI n (oF F n r))) n n] := rfl
        obtain ⟨O, hO⟩ : ∃ O, oF F n r = O := ⟨_, rfl⟩
        rw [hO] at hown hgk hgl hos
        obtain ⟨G, hG⟩ : ∃ G, gI n O = G := ⟨_, rfl⟩
        rw [hG] at hgk hgl hos
        have HO := Lib.hid hown
        have HGK := Lib.hid hgk
        have HGL := Lib.hid hgl
        have HOS := Lib.hid hos
        have HOO := Lib.hid hO
        have HGG := Lib.hid hG
        have HBW := Lib.hid hbw
        clear hown hgk hgl hos hbw hO hG
        by_cases hlr : r < n - 1
        · have tl : (r : Int) < (n : Int) - 1 := by omega
          obtain ⟨wo, hwo⟩ : ∃ wo : World, wo = wr := ⟨_, rfl⟩
          rw [← hwo] at HO HGK hnz HBW
          rw [← hwo]
          clear hwo
          go_wp2_with fail
          obtain ⟨gb, hgb⟩ : ∃ gb, wo.heap.size = gb := ⟨_, rfl⟩
          rw [hgb]
          have HGB := Lib.hid hgb
          have hgb2 : g0 < gb := by omega
          go_loopw [33] (fun v33 wr => ∃ a : Nat, v33 = .int .i64 a ∧ a ≤ n ∧ Blk wr gb 35 (jc [scAF (F G) n a]) ∧ Below wo.heap.size wo wr) (fun v33 _ => n - (intOf v33).toNat)
          case atStart =>
            refine ⟨0, rfl, Nat.zero_le _, ?_, ?_⟩
            · rw [← hgb]
              first
                | exact Blk.made' _ rfl rfl
                | exact Blk.three (Blk.made' _ rfl rfl) _ _ _
            · first
                | exact below_alloc
                | exact ((below_alloc.setCell (Nat.le_refl _) _).setCell (Nat.le_refl _) _).setCell (Nat.le_refl _) _
          case round =>
            clear hgb
            obtain ⟨a, rfl, ha, hkb, hbo⟩ := hrel
            have HKB := Lib.hid hkb
            have HBO := Lib.hid hbo
            have hzo := hbo.size
            clear hkb hbo
            by_cases hla : a < n
            · go_wp2_with fail
              go_loopw [10] (fun v10 wr => ∃ d : Nat, v10 = .int .i64 (a + 1 + d : Nat) ∧ a + 1 + d ≤ n ∧ Blk wr gb 35 (jc [scRF (F G) (scAF (F G) n a) a d]) ∧ Below wo.heap.size wo wr) (fun v10 _ => n - (intOf v10).toNat)
              case atStart => exact ⟨0, by go_num, by omega, HKB.out, HBO.out⟩
              case round =>
                clear HKB HBO hzo
                obtain ⟨d, rfl, hd, hkb, hbo⟩ := hrel
                have hsc : scRF (F G) (scAF (F G) n a) a (d + 1) = stF (F G) (scRF (F G) (scAF (F G) n a) a d) a (a + 1 + d) := rfl
                have hfin : a + 1 + d = n → scAF (F G) n (a + 1) = scRF (F G) (scAF (F G) n a) a d := fun e => by rw [scAF, show n - 1 - a = d by omega]
                obtain ⟨b, hb⟩ : ∃ b, a + 1 + d = b := ⟨_, rfl⟩
                obtain ⟨s, hs⟩ : ∃ s, scRF (F G) (scAF (F G) n a) a d = s := ⟨_, rfl⟩
                rw [hb, hs] at hsc hfin
                rw [hs] at hkb
                rw [hb] at hd ⊢
                obtain ⟨s1, s2, s3⟩ := s
                have HKB := Lib.hid hkb
                have HBO := Lib.hid hbo
                have HSC := Lib.hid hsc
                have HFIN := Lib.hid hfin
                have HD := Lib.hid hb
                clear hkb hbo hsc hfin hs hb
                by_cases hlb : b < n
                · obtain ⟨x, ok, hx⟩ : ∃ x ok, F G a b = (x, ok) := ⟨_, _, rfl⟩
                  have CC := Lib.hid (HC.out wr g0 G a b (HBW.out.trans (HBO.out.mono HBW.out.size)) (HGK.out.below HBO.out) HGL.out hla hlb)
                  rw [hx] at CC
                  have HX := Lib.hid hx
                  clear hx
                  cases ok with
                  | false =>
                    have S := Lib.hid (show scRF (F G) (scAF (F G) n a) a (d + 1) = (s1, s2, s3) from by rw [HSC.out]; unfold stF; rw [HX.out]; simp)
                    go_wp2_with (go_at_call 60; refine CC.out.mono ?_; rintro e w5 ⟨rfl, hb5⟩; have HB5 := Lib.hid hb5; clear hb5)
                    have k5 := HKB.out.below HB5.out
                    have B5 := HBO.out.trans (HB5.out.mono HBO.out.size)
                    go_roundw
                    case rel => exact ⟨d + 1, by have := HD.out; go_num, by have := HD.out; omega, by rw [S.out]; exact k5, B5⟩
                    case measure => simp [intOf]; omega
                  | true =>
                    by_cases hlx : x < s3
                    · have t1 : decide (x < s3) = true := by simpa using hlx
                      have S := Lib.hid (show scRF (F G) (scAF (F G) n a) a (d + 1) = (a, b, x) from by rw [HSC.out]; unfold stF; rw [HX.out]; exact if_pos ⟨rfl, hlx⟩)
                      clear hlx
                      go_wp2_with (go_at_call 60; refine CC.out.mono ?_; rintro e w5 ⟨rfl, hb5⟩; have k5 := HKB.out.below hb5; have c1 := k5.cell (j := 0) rfl; have c2 := k5.cell (j := 1) rfl; have c3 := k5.cell (j := 2) rfl; have f1 := k5.frozen 0; have f2 := k5.frozen 1; have f3 := k5.frozen 2; have K5 := Lib.hid k5; have HB5 := Lib.hid (HBO.out.trans (hb5.mono HBO.out.size)); clear hb5 k5)
                      have hgb3 : wo.heap.size ≤ gb := by rw [HGB.out]; exact Nat.le_refl _
                      go_roundw
                      case rel => exact ⟨d + 1, by have := HD.out; go_num, by have := HD.out; omega, by rw [S.out]; exact Blk.three K5.out _ _ _, ((HB5.out.setCell hgb3 _).setCell hgb3 _).setCell hgb3 _⟩
                      case measure => simp [intOf]; omega
                    · have t1 : decide (x < s3) = false := by simpa using hlx
                      have S := Lib.hid (show scRF (F G) (scAF (F G) n a) a (d + 1) = (s1, s2, s3) from by rw [HSC.out]; unfold stF; rw [HX.out]; exact if_neg fun h => hlx h.2)
                      clear hlx
                      go_wp2_with (go_at_call 60; refine CC.out.mono ?_; rintro e w5 ⟨rfl, hb5⟩; have k5 := HKB.out.below hb5; have c3 := k5.cell (j := 2) rfl; have K5 := Lib.hid k5; have HB5 := Lib.hid (HBO.out.trans (hb5.mono HBO.out.size)); clear hb5 k5)
                      go_roundw
                      case rel => exact ⟨d + 1, by have := HD.out; go_num, by have := HD.out; omega, by rw [S.out]; exact K5.out, HB5.out⟩
                      case measure => simp [intOf]; omega
                · have e : b = n := by omega
                  have S := Lib.hid (HFIN.out e)
                  have hab := HD.out
                  go_wp2_with fail
                  go_roundw
                  case rel => exact ⟨a + 1, by go_num, by omega, by rw [S.out]; exact HKB.out, HBO.out⟩
                  case measure => simp [intOf]; omega
            · have e : a = n := by omega
              subst e
              have hin := scAF_in (F G) (n := a) (by omega) a (Nat.le_refl _)
              obtain ⟨s, hs⟩ : ∃ s, scAF (F G) a a = s := ⟨_, rfl⟩
              rw [hs] at HKB HOS hin
              obtain ⟨s1, s2, s3⟩ := s
              obtain ⟨hi1, hi2⟩ := hin
              have c1 := HKB.out.cell (j := 0) rfl
              have c2 := HKB.out.cell (j := 1) rfl
              have CM := Lib.hid (merge_any g0 G a s1 s2 wr (HGK.out.below HBO.out) HGL.out n6 hi1 hi2)
              have OW := Lib.hid (HO.out.below HBO.out)
              clear hs
              go_wp2_with (first
                | (go_at_call 54; refine CM.out.mono ?_; rintro e w6 ⟨rfl, hk6, hg6⟩; have k6 := HKB.out.grown hg6 (by omega); have d1 := k6.cell (j := 0) rfl; have d2 := k6.cell (j := 1) rfl; have d3 := k6.cell (j := 2) rfl; have z6 := hg6.size; have OW6 := Lib.hid (OW.out.grown hg6 hnb'); have HK6 := Lib.hid hk6; have lt6 := hk6.lt; have BW6 := Lib.hid (show Below w.heap.size w w6 from HBW.out.trans ((HBO.out.mono HBW.out.size).trans ⟨hg6.os, hg6.tape, hg6.output, hg6.size, fun j hj => hg6.block j (by have := HBO.out.size; have := HBW.out.size; omega) (fun e => by have e := Option.some.inj e; have := HG0.out; omega)⟩)); clear hk6 hg6 k6)
                | (at_builtin; refine wpList_app1 rfl (.tmp 70) (.tmp 72) 30 rfl nb 35 (.agg #[.int .i64 0, .int .i64 0, .int .i64 0]) 3 24 Try.underlying30 infoJ rfl (by decide) (by decide) _ _ _ rfl (World.ownsRow.alloc OW6.out _) ⟨_, 0, none⟩ 1 [.int .i64 s1, .int .i64 s2, .int .i64 s3] rfl rfl (cell_three_new _ _ _ _ _) (by simp [Value.oneCell']) (by omega) (by simp; omega) ?_; intro g7 cap7 w7 o1 o2 o3))
              have z7 := o2.size
              have k7 : Blk w7 g0 3 (ic (mgI G s1 s2)) := (HK6.out.below below_alloc).of_eq (o2.block g0 (by simp; omega) (fun e => by have := (OW6.out.lt g0 e.symm).1; omega))
              have b7 : Below w.heap.size w w7 := (BW6.out.alloc BW6.out.size _).trans (Below.app (B := w.heap.size) (own_mono' (World.ownsRow.alloc OW6.out _) (by have := HG0.out; omega)) (by have := BW6.out.size; simp; omega) o2)
              have HO7 := Lib.hid (OwnJ.app (q := (s1, s2, s3)) o1)
              have K7 := Lib.hid k7
              have B7 := Lib.hid b7
              clear o1 o2 o3 k7 b7
              go_roundw
              case rel => exact ⟨r + 1, by go_num, by omega, by rw [HOS.out]; exact HO7.out, by rw [HOS.out, gI_snoc, HGG.out]; exact K7.out, by simp at z7; omega, B7.out⟩
              case measure => simp [intOf]; omega
        · have e : r = n - 1 := by omega
          have tl : ¬ (r : Int) < (n : Int) - 1 := by omega
          have HOO2 := Lib.hid (show O = oF F n (n - 1) from by rw [← HOO.out, e])
          have HE := Lib.hid e
          clear e
          go_wp2_with (go_at_call 62; refine (clipJ_own nb r _ O _ HO.out (by omega)).mono ?_; rintro e w9 ⟨v9, rfl, hm9, rfl⟩)
          go_ret
          exact ⟨_, rfl, by rw [← HOO2.out, ← HE.out]; exact hm9.mono (by have := HG0.out; omega), HBW.out⟩

end Go.Proofs.Ytclfjnoedcimiaa
