/- RiseByHull, the reference's walk. -/
import Derived.Test.YtcmbfkdhfdiamaaHullP
import Derived.Test.YtcmbfkdhfdiamaaHull
namespace Go.Proofs.Ytcmbfkdhfdiamaa
open Go.RowKit

set_option maxHeartbeats 4000000 in
theorem sriseByHull_any (b o c b' o' c' : Nat) (xs ws : List Int) (w : World) (h : RowI w b o xs) (h' : RowI w b' o' ws) (hv : vlB xs ws = true) (hm : xs.length ≤ 1099511627776) (hm' : ws.length ≤ 1099511627776) :
    Calls Try.prog 30 #[.slice (some ⟨b, o, none⟩) xs.length c, .slice (some ⟨b', o', none⟩) ws.length c'] w
      fun e w' => ∃ v, e = .returned v ∧ Mut 29 w' w.heap.size v xs.length (fc (rbb xs ws)) ∧ Below w.heap.size w w' := by
  have hvl := vl_of hv
  have hn0 := hvl.n0
  have hn8 := hvl.n8
  have hbk := bks_pool hvl
  have hd := poolR_dec1 (xs := xs) (ws := ws)
  have hG : ∀ t, t < (poolR xs ws xs.length).length → ∀ j, bd (xs.length :: poolR xs ws xs.length) t ≤ j → j < bd (xs.length :: poolR xs ws xs.length) (t + 1) → bmq xs ws (poolR xs ws xs.length) j = mq xs ws (bd (xs.length :: poolR xs ws xs.length) t) (bd (xs.length :: poolR xs ws xs.length) (t + 1) - 1) :=
    fun t ht j h1 h2 => bmq_eq hd ht h1 h2
  obtain ⟨B, hB⟩ : ∃ B, bd (xs.length :: poolR xs ws xs.length) = B := ⟨_, rfl⟩
  obtain ⟨m, hmm⟩ : ∃ m, (poolR xs ws xs.length).length = m := ⟨_, rfl⟩
  have hR : rbb xs ws = tab (bmq xs ws (poolR xs ws xs.length)) xs.length := rfl
  obtain ⟨G, hGe⟩ : ∃ G, bmq xs ws (poolR xs ws xs.length) = G := ⟨_, rfl⟩
  rw [hB, hmm] at hbk
  rw [hB, hmm, hGe] at hG
  rw [hGe] at hR
  rw [hR]
  have HBK := Lib.hid hbk
  have HG := Lib.hid hG
  have HV := Lib.hid hvl
  have H := Lib.hid h
  have H' := Lib.hid h'
  clear hbk hG hvl h h' hB hmm hGe hR hd
  go_enter Try.func30, Try.ntmps30
  go_wp2_with (go_at_call 64; refine (svalidLoads_any b o c b' o' c' xs ws _ H.out H'.out hm hm').mono ?_; rintro e w1 ⟨rfl, rfl⟩)
  go_loopw [5, 6] (fun v5 v6 wr => ∃ t : Nat, t ≤ m ∧ v6 = .int .i64 (B t) ∧ OwnF wr w.heap.size v5 (B t) (tab G (B t)) ∧ Below w.heap.size w wr)
    (fun _ v6 _ => xs.length - (intOf v6).toNat)
  case atStart => exact ⟨0, Nat.zero_le _, by rw [HBK.out.zero]; rfl, by rw [HBK.out.zero]; exact OwnF.empty' _ _ (Nat.le_refl _) _ rfl, by (repeat' (first | (with_reducible exact Below.refl _ _) | (with_reducible assumption) | (with_reducible refine Below.drewN ?_ _) | (with_reducible refine Below.alloc ?_ ?_ _) | (with_reducible refine Below.drew ?_) | (with_reducible refine Below.setCell ?_ ?_ _) | (with_reducible refine Below.trans ?_ (Below.mono (by assumption) ?_)) | go_size | (with_reducible refine Nat.le_trans ?_ (Below.size (by assumption)))))⟩
  case round =>
    obtain ⟨t, ht, rfl, hown, hb⟩ := hrel
    have HO := Lib.hid hown
    clear hown
    have hlen := HBK.out.le (m - t) t (by omega)
    by_cases hlt : B t < xs.length
    · have htm : t < m := by
        rcases Nat.lt_or_ge t m with h1 | h1
        · exact h1
        · rw [show t = m from by omega, HBK.out.last] at hlt
          omega
      have hup := HBK.out.up t htm
      have hle2 := HBK.out.le (m - (t + 1)) (t + 1) (by omega)
      have hend := hull_end HV.out HBK.out htm
      have hGt := HG.out t htm
      obtain ⟨lo, hlo⟩ : ∃ lo, B t = lo := ⟨_, rfl⟩
      obtain ⟨hi', hhi⟩ : ∃ hi', B (t + 1) = hi' := ⟨_, rfl⟩
      rw [hlo, hhi] at hup hend hGt
      rw [hlo] at HO hlt hlen ⊢
      rw [hhi] at hle2
      have HHI := Lib.hid hhi
      have HEND := Lib.hid hend
      have HGT := Lib.hid hGt
      clear hlo hhi hend hGt
      obtain ⟨wo, rfl⟩ : ∃ wo : World, wo = wr := ⟨_, rfl⟩
      have hzo := hb.size
      obtain ⟨p, hp⟩ : ∃ p, mq xs ws ((lo : Nat) : Int).toNat ((lo : Nat) : Int).toNat = p := ⟨_, rfl⟩
      have hp0 : mq xs ws lo (hullE xs ws lo 0) = p := by rw [← hp]; rfl
      have HP := Lib.hid hp
      have HP0 := Lib.hid hp0
      clear hp hp0
      go_wp2_with (go_at_call 72; refine (smean_as b o c b' o' c' xs ws _ _ p _ (H.out.below hb) (H'.out.below hb) HV.out (by omega) (by omega) (by omega) HP.out).mono ?_; rintro e w3 ⟨rfl, hb3⟩; have hz3 := hb3.size)
      go_loopw [7, 9] (fun v8 v9 wr => ∃ k : Nat, lo + 1 + k ≤ xs.length ∧ v9 = .int .i64 ((lo + 1 + k : Nat) : Int) ∧ v8 = .int .i64 ((hullE xs ws lo k : Nat) : Int) ∧ Blk wr w3.heap.size 29 (fc [mq xs ws lo (hullE xs ws lo k)]) ∧ Below w3.heap.size w3 wr) (fun _ v9 _ => xs.length - (intOf v9).toNat)
      case atStart => exact ⟨0, by omega, by go_num, rfl, by rw [HP0.out]; exact Blk.made w3 #[.int .i64 (up p), .int .i64 (dn p)] 29, by (repeat' (first | (with_reducible exact Below.refl _ _) | (with_reducible assumption) | (with_reducible refine Below.drewN ?_ _) | (with_reducible refine Below.alloc ?_ ?_ _) | (with_reducible refine Below.drew ?_) | (with_reducible refine Below.setCell ?_ ?_ _) | (with_reducible refine Below.trans ?_ (Below.mono (by assumption) ?_)) | go_size | (with_reducible refine Nat.le_trans ?_ (Below.size (by assumption)))))⟩
      case round =>
        obtain ⟨k, hk, rfl, rfl, hbk7, hbk⟩ := hrel
        have hzk := hbk.size
        have hl7 := hbk7.lt
        have hbe := hullE_bd (xs := xs) (ws := ws) (i := lo) k
        obtain ⟨E, hE⟩ : ∃ E, hullE xs ws lo k = E := ⟨_, rfl⟩
        rw [hE] at hbk7 hbe ⊢
        obtain ⟨be, hbe2⟩ : ∃ be, mq xs ws lo E = be := ⟨_, rfl⟩
        rw [hbe2] at hbk7
        have d1 := hbk7.f0 (k := 0) (by simp)
        have d2 := hbk7.f1 (k := 0) (by simp)
        simp only [Nat.zero_mul, Nat.zero_add, show gq [be] 0 = be from rfl] at d1 d2
        have f1 := hbk7.frozen 0
        have f2 := hbk7.frozen 1
        have HB7 := Lib.hid hbk7
        have HE := Lib.hid hE
        have HBE := Lib.hid hbe2
        clear hbk7 hE hbe2
        have hbw3 : Below w.heap.size w wr := (hb.trans (hb3.mono (by omega))).trans (hbk.mono (by omega))
        obtain ⟨x, hx⟩ : ∃ x, lo + 1 + k = x := ⟨_, rfl⟩
        have hlx : lo + 1 ≤ x := by omega
        have hEx : E < x := by omega
        rw [hx] at hk
        rw [hx]
        have HX := Lib.hid hx
        clear hx hbe
        by_cases hxn : x < xs.length
        · obtain ⟨q, hq⟩ : ∃ q, mq xs ws ((lo : Nat) : Int).toNat ((x : Nat) : Int).toNat = q := ⟨_, rfl⟩
          have s1 : Sm 1200 40 q := by rw [← hq]; exact mq_sm HV.out (by omega) (by omega)
          have s2 : Sm 1200 40 be := by rw [← HBE.out]; exact mq_sm HV.out (by have := hullE_bd (xs := xs) (ws := ws) (i := lo) k; have := HE.out; omega) (by omega)
          have s3 := sm_mul s2 s1
          have S1 := Lib.hid (show dn be * dn q ≤ 4611686018427387904 by omega)
          have S2 := Lib.hid (show ((up be).natAbs : Int) * dn q + (up q).natAbs * dn be ≤ 4611686018427387904 by omega)
          have hst : hullE xs ws lo (k + 1) = if be < q then E else x := by
            have e1 : mq xs ws lo x = q := by rw [← hq]; rfl
            rw [hullE, show lo + (k + 1) = x from by have := HX.out; omega, HE.out, HBE.out, e1]
          have hqx : mq xs ws lo x = q := by rw [← hq]; rfl
          have HST := Lib.hid hst
          have HQ := Lib.hid hq
          have HQX := Lib.hid hqx
          clear hq s1 s2 s3 hst hqx
          cases hcmp : decide (be < q) with
          | true =>
            go_wp2_with (first
              | (go_at_call 72; refine (smean_as b o c b' o' c' xs ws _ _ q _ (H.out.below hbw3) (H'.out.below hbw3) HV.out (by omega) (by omega) (by omega) HQ.out).mono ?_; rintro e w4 ⟨rfl, hb4⟩; have hz4 := hb4.size; have x1 := keepC hb4 d1; have x2 := keepC hb4 d2; have hl4 : w3.heap.size < w4.heap.size := (by omega))
              | (go_at_call 73; refine (sless_any be q _ S2.out).mono ?_; rintro e w5 ⟨rfl, hb5⟩; have hz5 := hb5.size))
            go_roundw
            case rel =>
              have hb6 : Below wr.heap.size wr w5 := (hb4.alloc hz4 _).trans (hb5.mono (by simp; omega))
              have e5 : hullE xs ws lo (k + 1) = E := by rw [HST.out, if_pos (of_decide_eq_true hcmp)]
              exact ⟨k + 1, by have := HX.out; omega, by have := HX.out; go_num, by rw [e5], by rw [e5, HBE.out]; exact HB7.out.below hb6, hbk.trans (hb6.mono hzk)⟩
            case measure => simp [intOf]; omega
          | false =>
            go_wp2_with (first
              | (go_at_call 72; refine (smean_as b o c b' o' c' xs ws _ _ q _ (H.out.below hbw3) (H'.out.below hbw3) HV.out (by omega) (by omega) (by omega) HQ.out).mono ?_; rintro e w4 ⟨rfl, hb4⟩; have hz4 := hb4.size; have x1 := keepC hb4 d1; have x2 := keepC hb4 d2; have x3 := keepF hb4 hl7 f1; have x4 := keepF hb4 hl7 f2; have hl4 : w3.heap.size < w4.heap.size := (by omega))
              | (go_at_call 73; refine (sless_any be q _ S2.out).mono ?_; rintro e w5 ⟨rfl, hb5⟩; have hz5 := hb5.size; have y1 := keepC hb5 (b := w4.heap.size) (o := 0) (v := .int .i64 (up q)) (by simp [go_sem]); have y2 := keepC hb5 (b := w4.heap.size) (o := 1) (v := .int .i64 (dn q)) (by simp [go_sem]); have y3 := keepC hb5 (b := w3.heap.size) (o := 0) (v := .int .i64 (up be)) (by simp [go_sem, hl4, x1]); have y4 := keepC hb5 (b := w3.heap.size) (o := 1) (v := .int .i64 (dn be)) (by simp [go_sem, hl4, x2]); have y5 := keepF hb5 (b := w3.heap.size) (o := 0) (by simp; omega) (by simp [go_sem, hl4, x3]); have y6 := keepF hb5 (b := w3.heap.size) (o := 1) (by simp; omega) (by simp [go_sem, hl4, x4])))
            go_roundw
            case rel =>
              have hb6 : Below wr.heap.size wr w5 := (hb4.alloc hz4 _).trans (hb5.mono (by simp; omega))
              have e5 : hullE xs ws lo (k + 1) = x := by rw [HST.out, if_neg (of_decide_eq_false hcmp)]
              exact ⟨k + 1, by have := HX.out; omega, by have := HX.out; go_num, by rw [e5], by rw [e5, HQX.out]; exact ((HB7.out.below hb6).set 0 _).set 1 _, ((hbk.trans (hb6.mono hzk)).setCell (by simp) _).setCell (by simp) _⟩
            case measure => simp [intOf]; omega
        · have hEe : E = hi' - 1 := by rw [← HE.out, show k = xs.length - 1 - lo from by have := HX.out; omega]; exact HEND.out
          have hgj : ∀ j, lo ≤ j → j < hi' → G j = be := fun j h1 h2 => by rw [HGT.out j h1 h2, ← HBE.out, hEe]
          have HGJ := Lib.hid hgj
          have HO3 := Lib.hid (HO.out.below (hb3.trans (hbk.mono hz3)))
          have hEE : ((E : Nat) : Int) = (hi' : Int) - 1 := by omega
          rw [hEE]
          have K7 := Lib.hid HB7.out
          have BW := Lib.hid hbw3
          have hzw := hbw3.size
          obtain ⟨g7, hg7⟩ : ∃ g7, w3.heap.size = g7 := ⟨_, rfl⟩
          have hg7z : w.heap.size ≤ g7 := by omega
          have hn7 : _ ≠ some w3.heap.size := fun e => by have := (HO.out.lt _ e).2; omega
          rw [hg7] at K7 hl7 hn7 ⊢
          clear HB7 HBE HE HEND HGT hgj hEE hbw3 d1 d2 f1 f2 hbk hb3 HO hb hg7 hz3 hzk hzo hEx hlx hEe
          go_wp2_with fail
          go_loopw [5, 6] (fun v5 v6 wr => ∃ j : Nat, lo ≤ j ∧ j ≤ hi' ∧ v6 = .int .i64 j ∧ OwnF wr w.heap.size v5 j (tab G j) ∧ v5.ownBlock ≠ some g7 ∧ Blk wr g7 29 (fc [be]) ∧ Below w.heap.size w wr) (fun _ v6 _ => hi' - (intOf v6).toNat)
          case atStart => exact ⟨lo, Nat.le_refl _, by omega, rfl, HO3.out, hn7, K7.out, BW.out⟩
          case round =>
            clear HO3 K7 BW hn7
            obtain ⟨j, hj1, hj, rfl, hown, hn7, hk7, hb⟩ := hrel
            have HO := Lib.hid hown
            have hz := hb.size
            by_cases hjl : j < hi'
            · have d1 := hk7.f0 (k := 0) (by simp)
              have d2 := hk7.f1 (k := 0) (by simp)
              simp only [Nat.zero_mul, Nat.zero_add, show gq [be] 0 = be from rfl] at d1 d2
              have l7 := hk7.lt
              have K7 := Lib.hid hk7
              have q3 : decide ((j : Int) ≤ (hi' : Int) - 1) = true := by simp; omega
              have hgt := HGJ.out j hj1 hjl
              have HGT := Lib.hid hgt
              clear hown hk7 hgt
              go_wp2_with (at_builtin; refine wpList_app1 rfl (.tmp 50) (.tmp 52) 37 rfl w.heap.size 29 (.agg #[.int .i64 0, .int .i64 0]) 2 16 Try.underlying37 infoF rfl (by decide) (by decide) _ _ _ rfl (World.ownsRow.alloc HO.out _) ⟨wr.heap.size, 0, none⟩ 1 [.int .i64 (up be), .int .i64 (dn be)] rfl rfl (cell_two_new _ _ _ _) (by simp [Value.oneCell']) (by omega) (by simp; omega) ?_; intro g2 cap2 w4 o1 o2 o3)
              have ba : Below wr.heap.size wr (wr.alloc (.cells #[.int .i64 (up be), .int .i64 (dn be)] 29)) := Below.alloc (Below.refl _ _) (Nat.le_refl _) _
              go_roundw
              case rel =>
                have hne := (K7.out.below ba).of_eq (o2.block g7 (K7.out.below ba).lt (fun e => hn7 e.symm))
                have hn8 : g2 ≠ g7 := by
                  rcases o3 with h | h
                  · intro e; subst e; exact hn7 h
                  · simp only [World.size_alloc] at h; omega
                exact ⟨j + 1, by omega, by omega, by go_num, by rw [tab_succ, HGT.out]; exact OwnF.app o1, fun e => hn8 (by simpa [Value.ownBlock] using e), hne, (hb.alloc hz _).trans (Below.app (World.ownsRow.alloc HO.out _) (by simp; omega) o2)⟩
              case measure => simp [intOf]; omega
            · have hjh : j = hi' := by omega
              have q3 : decide ((j : Int) ≤ (hi' : Int) - 1) = false := by simp; omega
              rw [hjh] at HO
              clear hown hk7
              have HHJ := Lib.hid hjh
              clear hjh
              go_wp2_with fail
              go_roundw
              case rel => exact ⟨t + 1, by omega, by rw [HHI.out, HHJ.out], by rw [HHI.out]; exact HO.out, hb⟩
              case measure => simp [intOf]; omega
    · have htm : t = m := by
        rcases Nat.lt_or_ge t m with h1 | h1
        · have h2 := HBK.out.up t h1
          have h3 := HBK.out.le (m - (t + 1)) (t + 1) (by omega)
          omega
        · omega
      have hbn : B t = xs.length := by rw [htm]; exact HBK.out.last
      rw [hbn] at HO
      rw [hbn]
      obtain ⟨g, cap, rfl, hg⟩ := HO.out.shape (by omega)
      have hcap := HO.out.cap
      clear htm hbn hlen hlt
      go_wp2_with fail
      go_ret
      exact ⟨_, rfl, .inr ⟨g, _, rfl, hg, HO.out.blk⟩, hb⟩

end Go.Proofs.Ytcmbfkdhfdiamaa
