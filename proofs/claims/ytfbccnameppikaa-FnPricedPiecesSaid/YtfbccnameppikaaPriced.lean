/- impl.PricedPieces. -/
import Derived.Test.YtfbccnameppikaaPriceP
import Derived.Test.YtfbccnameppikaaLeastMiss
import Derived.Deep.DeepCutAuto
namespace Go.Proofs.Ytfbccnameppikaa
open Go.RowKit

def prU (xs : List Int) (pr : Int) : Int := if rvB xs && inB pr 0 500 then up (pk (yP xs pr) (xs.length - 1)).1 else 0
def prD (xs : List Int) (pr : Int) : Int := if rvB xs && inB pr 0 500 then dn (pk (yP xs pr) (xs.length - 1)).1 else 0
def prM (xs : List Int) (pr : Int) : Int := if rvB xs && inB pr 0 500 then ((pk (yP xs pr) (xs.length - 1)).2 : Int) else 0
theorem whole_as' (n : Int) (q : Rat) (hq : qd n 1 = q) (w : World) :
    Calls Try.prog 32 #[.int .i64 n] w fun e w' => e = .returned (.agg #[.int .i64 (up q), .int .i64 (dn q)]) ∧ Below w.heap.size w w' := hq ▸ whole_any n w

set_option maxHeartbeats 8000000 in
theorem priced_main (b o c : Nat) (xs : List Int) (pr : Int) (w : World) (h : RowI w b o xs) (hc : xs.length ≤ c) (hm : xs.length ≤ 1099511627776) (h1 : rvB xs = true) (h2 : inB pr 0 500 = true) (v : Rat) (m : Nat) (hvm : pk (xP xs pr) (xs.length - 1) = (v, m)) :
    Calls Try.prog 17 #[.slice (some ⟨b, o, none⟩) xs.length c, .int .i64 pr] w
      fun e w' => e = .returned (.tuple #[.agg #[.int .i64 (up v), .int .i64 (dn v)], .int .i64 m, .bool true]) ∧ Below w.heap.size w w' := by
  have hv := rv_of h1
  have hp := inB_iff.1 h2
  have n0 := hv.n0
  have n8 := hv.n8
  have H := Lib.hid h
  have CV := Lib.hid (fun w (h : RowI w b o xs) => h1 ▸ rowValid_any b o c xs w h hm)
  have CI := Lib.hid (fun w => h2 ▸ in_any pr 0 500 w)
  have CL := Lib.hid (fun w (h : RowI w b o xs) => leastCutMiss_any b o c xs w h hc hv)
  have PX := Lib.hid (fun i (hi : i < xs.length) => xP_pq hv hp.1 hp.2 hi)
  have PL := Lib.hid (fun i (hi : i < xs.length) => lcN_pq misQ_good n8 hv.x (p := i) (e := xs.length) (by omega) (Nat.le_refl _))
  have HVM := Lib.hid hvm
  have GQ := Lib.hid (show ∀ i, i < xs.length → gq (outLMiss xs xs.length) i = lcN misQ xs i xs.length from fun i hi => gq_tab hi)
  have GL := Lib.hid (show (outLMiss xs xs.length).length = xs.length from tab_length _ _)
  have ST := Lib.hid (show ∀ i, xP xs pr i = lcN misQ xs i xs.length + qd (pr * ((i : Int) + 1)) 1 from fun i => rfl)
  obtain ⟨n, hn⟩ : ∃ n, xs.length = n := ⟨_, rfl⟩
  rw [hn] at n0 n8 CL PX PL HVM GQ GL ST CV ⊢
  clear h hn hv hvm h1 h2 hm hc
  go_enter Try.func17, Try.ntmps17
  go_wp2_with (first
    | (go_at_call 40; refine (CV.out _ (H.out.below (by (repeat' (first | (with_reducible exact Below.refl _ _) | (with_reducible assumption) | (with_reducible refine Below.drewN ?_ _) | (with_reducible refine Below.alloc ?_ ?_ _) | (with_reducible refine Below.drew ?_) | (with_reducible refine Below.setCell ?_ ?_ _) | (with_reducible refine Below.trans ?_ (Below.mono (by assumption) ?_)) | go_size | (with_reducible refine Nat.le_trans ?_ (Below.size (by assumption)))))))).mono ?_; rintro e w1 ⟨rfl, hb1⟩; have hz1 := hb1.size; simp only [World.size_alloc] at hz1; have kb := Lib.hid ((Blk.made w #[.int .i64 0, .int .i64 0] 27).below hb1); have B1 : Below w.heap.size w w1 := below_alloc.trans (hb1.mono (by simp)))
    | (go_at_call 41; refine (CI.out _).mono ?_; rintro e w2 ⟨rfl, rfl⟩)
    | (go_at_call 42; refine (CL.out _ (H.out.below (B1.alloc (by omega) _))).mono ?_; rintro e w3 ⟨g, cap, rfl, ho, hb3⟩; have hz3 := hb3.size; simp only [World.size_alloc] at hz3))
  obtain ⟨g7, hg7⟩ : ∃ g7, w1.heap.size = g7 := ⟨_, rfl⟩
  have k7 : Blk w3 g7 27 [.int .i64 0, .int .i64 0] := by
    have := (Blk.made w1 #[.int .i64 0, .int .i64 0] 27).below hb3
    rwa [hg7] at this
  have K7 := Lib.hid k7
  have KB := Lib.hid ((kb.out.below (show Below w1.heap.size w1 (w1.alloc (.cells #[.int .i64 0, .int .i64 0] 27)) from below_alloc)).below hb3)
  have B3 := Lib.hid ((B1.alloc (by omega) _).trans (hb3.mono (by simp; omega)))
  have KL := Lib.hid ho.blk
  have hgl := (Blk.of_own ho).2
  simp only [World.size_alloc] at hgl
  rw [hg7] at hz1 hz3 hgl ⊢
  clear k7 kb hb1 hb3 ho B1 hg7
  go_loopw [8, 25] (fun v8 v25 wr => ∃ (i : Nat) (a0 a1 m' : Int), v25 = .int .i64 i ∧ v8 = .int .i64 m' ∧ i ≤ n ∧ Blk wr g7 27 [.int .i64 a0, .int .i64 a1] ∧ (∀ j, i = j + 1 → a0 = up (pk (xP xs pr) j).1 ∧ a1 = dn (pk (xP xs pr) j).1 ∧ m' = ((pk (xP xs pr) j).2 : Int)) ∧
    Blk wr g 27 (fc (outLMiss xs n)) ∧ Blk wr w.heap.size 27 [.int .i64 0, .int .i64 0] ∧ Below w.heap.size w wr) (fun _ v25 _ => n - (intOf v25).toNat)
  case atStart => exact ⟨0, 0, 0, 0, rfl, rfl, Nat.zero_le _, K7.out, fun j hj => by omega, KL.out, KB.out, B3.out⟩
  case round =>
    clear K7 KB B3 KL
    obtain ⟨i, a0, a1, m', rfl, rfl, hi, hk7, hst, hkl, hkb, hb⟩ := hrel
    have K7 := Lib.hid hk7
    have KL := Lib.hid hkl
    have KB := Lib.hid hkb
    have B := Lib.hid hb
    have HST := Lib.hid hst
    have hz := hb.size
    have l7 := hk7.lt
    have ll := hkl.lt
    clear hb hst hk7 hkb
    by_cases hlt : i < n
    · have s1 := PL.out i hlt
      have s3 := PX.out i hlt
      have e1 := ST.out i
      have x1 := hkl.f0 (k := i) (by rw [GL.out]; exact hlt)
      have x2 := hkl.f1 (k := i) (by rw [GL.out]; exact hlt)
      rw [GQ.out i hlt] at x1 x2
      have bz := mul_price hp.1 hp.2 (i := i) (by omega)
      have q1 : IntKind.i64.wrap ((i : Int) + 1) = (i : Int) + 1 := IntWalk.i64_in _ (by omega)
      have q2 : IntKind.i64.wrap (pr * ((i : Int) + 1)) = pr * ((i : Int) + 1) := IntWalk.i64_in _ (by omega)
      obtain ⟨z, hz0⟩ : ∃ z, pr * ((i : Int) + 1) = z := ⟨_, rfl⟩
      rw [hz0] at e1 bz
      have q3 : IntKind.i64.wrap (pr * ((i : Int) + 1)) = z := by rw [q2, hz0]
      have q4 : IntKind.i64.wrap z = z := IntWalk.i64_in _ (by omega)
      obtain ⟨lq, hlq⟩ : ∃ lq, lcN misQ xs i n = lq := ⟨_, rfl⟩
      rw [hlq] at s1 x1 x2 e1
      obtain ⟨zq, hzq⟩ : ∃ zq, qd z 1 = zq := ⟨_, rfl⟩
      have s2 : Pq 6048000 zq := hzq ▸ (qd_pq bz.1 bz.2).mono (by omega)
      rw [hzq] at e1
      obtain ⟨sm, hsm⟩ : ∃ sm, lq + zq = sm := ⟨_, rfl⟩
      rw [hsm] at e1
      rw [e1] at s3
      have o1 := plus_ok s1 s2
      have WW := Lib.hid (whole_as' z zq hzq)
      have PW := Lib.hid (fun w => plus_any lq zq sm hsm w (by omega) (by omega))
      have E1 := Lib.hid e1
      have S3 := Lib.hid s3
      clear s1 s2 s3 e1 o1 bz hlq hzq hsm hkl q2
      go_upto_region 7 with fail
      refine wp_abstract (fun W => W.cell? ⟨wr.heap.size, 0, none⟩ = some (.int .i64 (up lq)) ∧ W.cell? ⟨wr.heap.size, 1, none⟩ = some (.int .i64 (dn lq)) ∧ wr.heap.size < W.heap.size ∧ Below wr.heap.size wr W) ⟨by simp [go_sem], by simp [go_sem], by simp, by (repeat' (first | (with_reducible exact Below.refl _ _) | (with_reducible assumption) | (with_reducible refine Below.drewN ?_ _) | (with_reducible refine Below.alloc ?_ ?_ _) | (with_reducible refine Below.drew ?_) | (with_reducible refine Below.setCell ?_ ?_ _) | (with_reducible refine Below.trans ?_ (Below.mono (by assumption) ?_)) | go_size | (with_reducible refine Nat.le_trans ?_ (Below.size (by assumption)))))⟩ ?_
      rintro W5 ⟨d1, d2, hz5, hb5⟩
      go_cut [11] (fun s11 wx => ∃ g11, s11 = .pointer (some ⟨g11, 0, none⟩) ∧ W5.heap.size ≤ g11 ∧ Blk wx g11 27 (fc [sm]) ∧ Below W5.heap.size W5 wx)
      case first =>
        go_region_held3 (fun w' => w'.cell? ⟨wr.heap.size, 0, none⟩ = some (.int .i64 (up lq)) ∧ w'.cell? ⟨wr.heap.size, 1, none⟩ = some (.int .i64 (dn lq)) ∧ Below W5.heap.size W5 w')
          ((exact keepS2 (W := W5) (by (repeat' (first | (with_reducible exact Below.refl _ _) | (with_reducible assumption) | (with_reducible refine Below.drewN ?_ _) | (with_reducible refine Below.alloc ?_ ?_ _) | (with_reducible refine Below.drew ?_) | (with_reducible refine Below.setCell ?_ ?_ _) | (with_reducible refine Below.trans ?_ (Below.mono (by assumption) ?_)) | go_size | (with_reducible refine Nat.le_trans ?_ (Below.size (by assumption)))))) ⟨d1, d2, Below.refl _ _⟩))
          ((first
            | (go_at_call 32; refine (WW.out _).mono ?_; rintro e w3 ⟨rfl, hb3⟩; obtain ⟨hc3, hf3⟩ := bcell hb3; have hz3 := hb3.size; (try simp only [World.size_alloc, World.size_drew] at hz3); (try have y3 : W5.heap.size < w3.heap.size := (by omega)))
            | (go_at_call 33; refine (PW.out _).mono ?_; rintro e w4 ⟨rfl, hb4⟩; obtain ⟨hc4, hf4⟩ := bcell hb4; have hz4 := hb4.size; (try simp only [World.size_alloc] at hz4); (try have y4 : W5.heap.size < w4.heap.size := (by omega)); (try have y5 : w3.heap.size < w4.heap.size := (by omega)))))
        all_goals go_wp2_with fail
        all_goals go_meet
        all_goals refine ⟨_, rfl, by omega, ?_, by (repeat' (first | (with_reducible exact Below.refl _ _) | (with_reducible assumption) | (with_reducible refine Below.drewN ?_ _) | (with_reducible refine Below.alloc ?_ ?_ _) | (with_reducible refine Below.drew ?_) | (with_reducible refine Below.setCell ?_ ?_ _) | (with_reducible refine Below.trans ?_ (Below.mono (by assumption) ?_)) | go_size | (with_reducible refine Nat.le_trans ?_ (Below.size (by assumption)))))⟩
        all_goals change Blk _ _ _ [.int .i64 (up sm), .int .i64 (dn sm)]
        all_goals (repeat' (first | ((with_reducible refine Blk.made' _ ?_ ?_) <;> first | rfl | (simp; done)) | (with_reducible refine Blk.two (x := .int .i64 0) (y := .int .i64 0) ?_ _ _) | (with_reducible refine Blk.drews ?_) | (with_reducible refine Blk.allocs ?_ _) | ((with_reducible refine Blk.others ?_ ?_); rotate_left; (focus (first | (simp; done) | (simp; omega)))) | (with_reducible refine Blk.below ?_ (by with_reducible assumption))))
      case rest =>
        obtain ⟨g11, rfl, hg11, hk11, hb11⟩ := hcut
        have hz11 := hb11.size
        have b7 : Below wr.heap.size wr wc := hb5.trans (hb11.mono (by omega))
        have K7 := Lib.hid (K7.out.below b7)
        have KL := Lib.hid (KL.out.below b7)
        have KB := Lib.hid (KB.out.below b7)
        have B := Lib.hid (B.out.trans (b7.mono hz))
        obtain ⟨v1, v2⟩ := hk11.one0
        have u1 := K7.out.cell (j := 0) rfl
        have u2 := K7.out.cell (j := 1) rfl
        have f1 := K7.out.frozen 0
        have f2 := K7.out.frozen 1
        have l7c := K7.out.lt
        have hw7 : w.heap.size ≤ g7 := by omega
        have hne : g7 ≠ w.heap.size := by omega
        have hneg : g7 ≠ g := by omega
        clear hk11 hb11 b7 hb5 d1 d2 x1 x2 WW PW q3 q4 hz0
        by_cases hi0 : i = 0
        · subst hi0
          have E2 := Lib.hid (show pk (xP xs pr) 0 = (sm, 1) by rw [pk, E1.out])
          clear HST
          go_wp2_with fail
          go_roundw
          case rel =>
            refine ⟨1, up sm, dn sm, 1, rfl, rfl, hlt, K7.out.two (x := .int .i64 a0) (y := .int .i64 a1) _ _, fun j hj => ?_, (KL.out.others hneg).others hneg, (KB.out.others hne).others hne, (B.out.setCell hw7 _).setCell hw7 _⟩
            obtain rfl : j = 0 := by omega
            rw [E2.out]
            exact ⟨rfl, rfl, rfl⟩
          case measure => simp [intOf]; omega
        · obtain ⟨j, rfl⟩ : ∃ j, i = j + 1 := ⟨i - 1, by omega⟩
          obtain ⟨rfl, rfl, rfl⟩ := HST.out j rfl
          have s5 := pk_pq (F := xP xs pr) (B := 12096000) j fun k hk => PX.out k (by omega)
          have e2 : pk (xP xs pr) (j + 1) = if xP xs pr (j + 1) < (pk (xP xs pr) j).1 then (xP xs pr (j + 1), j + 2) else pk (xP xs pr) j := rfl
          rw [E1.out] at e2
          obtain ⟨bq, hbq⟩ : ∃ bq, (pk (xP xs pr) j).1 = bq := ⟨_, rfl⟩
          rw [hbq] at s5 e2 u1 u2 K7
          have HBQ := Lib.hid hbq
          obtain ⟨mm, hmm⟩ : ∃ mm, (pk (xP xs pr) j).2 = mm := ⟨_, rfl⟩
          rw [hmm]
          have HMM := Lib.hid hmm
          have E2 := Lib.hid e2
          have o2 := less_ok S3.out s5
          have LW := Lib.hid (fun w => less_any sm bq w (by omega) (by omega))
          have t0 : (((j + 1 : Nat) : Int) == 0) = false := by simp; omega
          clear hbq hmm e2 s5 o2 HST hi0
          by_cases hcmp : sm < bq
          · have t1 : decide (sm < bq) = true := by simpa using hcmp
            have E3 := Lib.hid (show pk (xP xs pr) (j + 1) = (sm, j + 2) by rw [E2.out, if_pos hcmp])
            clear hcmp
            go_wp2_with (go_at_call 34; refine (LW.out _).mono ?_; rintro e w7 ⟨rfl, hb7⟩; have v1 := keepC hb7 v1; have v2 := keepC hb7 v2; have u1 := keepC hb7 u1; have u2 := keepC hb7 u2; have f1 := keepF hb7 l7c f1; have f2 := keepF hb7 l7c f2; have hz7 := hb7.size; have l7d := Nat.lt_of_lt_of_le l7c hz7)
            go_roundw
            case rel =>
              refine ⟨j + 2, up sm, dn sm, ((j + 2 : Nat) : Int), by go_num, by go_num, hlt, (K7.out.below hb7).two (x := .int .i64 (up bq)) (y := .int .i64 (dn bq)) _ _, fun k hk => ?_, ((KL.out.below hb7).others hneg).others hneg, ((KB.out.below hb7).others hne).others hne, ((B.out.trans (hb7.mono (by omega))).setCell hw7 _).setCell hw7 _⟩
              obtain rfl : k = j + 1 := by omega
              rw [E3.out]
              exact ⟨rfl, rfl, rfl⟩
            case measure => simp [intOf]; omega
          · have t1 : decide (sm < bq) = false := by simpa using hcmp
            have E3 := Lib.hid (show pk (xP xs pr) (j + 1) = pk (xP xs pr) j by rw [E2.out, if_neg hcmp])
            clear hcmp
            go_wp2_with (go_at_call 34; refine (LW.out _).mono ?_; rintro e w7 ⟨rfl, hb7⟩; obtain ⟨hc7, hf7⟩ := bcell hb7; have hz7 := hb7.size)
            go_roundw
            case rel =>
              refine ⟨j + 2, up bq, dn bq, mm, by go_num, rfl, hlt, K7.out.below hb7, fun k hk => ?_, KL.out.below hb7, KB.out.below hb7, B.out.trans (hb7.mono (by omega))⟩
              obtain rfl : k = j + 1 := by omega
              rw [E3.out, HBQ.out, HMM.out]
              exact ⟨rfl, rfl, rfl⟩
            case measure => simp [intOf]; omega
    · have hin : i = n := by omega
      obtain ⟨j, rfl⟩ : ∃ j, n = j + 1 := ⟨n - 1, by omega⟩
      obtain ⟨h1, h2, h3⟩ := HST.out j hin
      have hvm : pk (xP xs pr) j = (v, m) := HVM.out
      rw [hvm] at h1 h2 h3
      subst h1 h2 h3
      have u1 := K7.out.cell (j := 0) rfl
      have u2 := K7.out.cell (j := 1) rfl
      have k0 := KB.out.cell (j := 0) rfl
      have k1 := KB.out.cell (j := 1) rfl
      have f0 := KB.out.frozen 0
      have f1 := KB.out.frozen 1
      have y1 := (KB.out.set 0 (.int .i64 (up v))).cell (j := 0) rfl
      have y2 := ((KB.out.set 0 (.int .i64 (up v))).set 1 (.int .i64 (dn v))).cell (j := 1) rfl
      have hlt2 : ¬ i < j + 1 := hlt
      clear hvm HVM HST hkl hin
      go_wp2_with fail
      refine bodyPost_ret (v := .tuple #[.agg #[.int .i64 (up v), .int .i64 (dn v)], .int .i64 m, .bool true]) ?_ rfl ⟨rfl, ?_⟩
      · simp [results, Try.results17, go_sem, y1, y2]
      · exact (B.out.setCell (Nat.le_refl _) _).setCell (Nat.le_refl _) _


set_option maxHeartbeats 2000000 in
theorem priced_any (b o c : Nat) (xs : List Int) (pr : Int) (w : World) (h : RowI w b o xs) (hc : xs.length ≤ c) (hm : xs.length ≤ 1099511627776) :
    Calls Try.prog 17 #[.slice (some ⟨b, o, none⟩) xs.length c, .int .i64 pr] w
      fun e w' => e = .returned (.tuple #[.agg #[.int .i64 (prU xs pr), .int .i64 (prD xs pr)], .int .i64 (prM xs pr), .bool (rvB xs && inB pr 0 500)]) ∧ Below w.heap.size w w' := by
  cases h1 : rvB xs with
  | false =>
    have H := Lib.hid h
    have CV := Lib.hid (fun w (h : RowI w b o xs) => h1 ▸ rowValid_any b o c xs w h hm)
    have e1 : prU xs pr = 0 := by simp [prU, h1]
    have e2 : prD xs pr = 0 := by simp [prD, h1]
    have e3 : prM xs pr = 0 := by simp [prM, h1]
    rw [e1, e2, e3, Bool.false_and]
    clear e1 e2 e3 h1 h
    go_enter Try.func17, Try.ntmps17
    go_wp2_with (go_at_call 40; refine (CV.out _ (H.out.below (by (repeat' (first | (with_reducible exact Below.refl _ _) | (with_reducible assumption) | (with_reducible refine Below.drewN ?_ _) | (with_reducible refine Below.alloc ?_ ?_ _) | (with_reducible refine Below.drew ?_) | (with_reducible refine Below.setCell ?_ ?_ _) | (with_reducible refine Below.trans ?_ (Below.mono (by assumption) ?_)) | go_size | (with_reducible refine Nat.le_trans ?_ (Below.size (by assumption)))))))).mono ?_; rintro e w1 ⟨rfl, hb1⟩; have kb := ((Blk.made w #[.int .i64 0, .int .i64 0] 27).below hb1); have k0 := kb.cell (j := 0) rfl; have k1 := kb.cell (j := 1) rfl; have f0 := kb.frozen 0; have f1 := kb.frozen 1; have l1 := kb.lt)
    have y1 := (kb.set 0 (.int .i64 0)).cell (j := 0) rfl
    have y2 := ((kb.set 0 (.int .i64 0)).set 1 (.int .i64 0)).cell (j := 1) rfl
    refine bodyPost_ret (v := .tuple #[.agg #[.int .i64 0, .int .i64 0], .int .i64 0, .bool false]) ?_ rfl ⟨rfl, ?_⟩
    · simp [results, Try.results17, go_sem, y1, y2]
    · exact ((below_alloc.trans (hb1.mono (by simp))).setCell (Nat.le_refl _) _).setCell (Nat.le_refl _) _
  | true =>
    cases h2 : inB pr 0 500 with
    | false =>
      have H := Lib.hid h
      have CV := Lib.hid (fun w (h : RowI w b o xs) => h1 ▸ rowValid_any b o c xs w h hm)
      have CI := Lib.hid (fun w => h2 ▸ in_any pr 0 500 w)
      have e1 : prU xs pr = 0 := by simp [prU, h2]
      have e2 : prD xs pr = 0 := by simp [prD, h2]
      have e3 : prM xs pr = 0 := by simp [prM, h2]
      rw [e1, e2, e3, Bool.true_and]
      clear e1 e2 e3 h1 h2 h
      go_enter Try.func17, Try.ntmps17
      go_wp2_with (first | (go_at_call 40; refine (CV.out _ (H.out.below (by (repeat' (first | (with_reducible exact Below.refl _ _) | (with_reducible assumption) | (with_reducible refine Below.drewN ?_ _) | (with_reducible refine Below.alloc ?_ ?_ _) | (with_reducible refine Below.drew ?_) | (with_reducible refine Below.setCell ?_ ?_ _) | (with_reducible refine Below.trans ?_ (Below.mono (by assumption) ?_)) | go_size | (with_reducible refine Nat.le_trans ?_ (Below.size (by assumption)))))))).mono ?_; rintro e w1 ⟨rfl, hb1⟩; have kb := ((Blk.made w #[.int .i64 0, .int .i64 0] 27).below hb1); have k0 := kb.cell (j := 0) rfl; have k1 := kb.cell (j := 1) rfl; have f0 := kb.frozen 0; have f1 := kb.frozen 1; have l1 := kb.lt) | (go_at_call 41; refine (CI.out _).mono ?_; rintro e w2 ⟨rfl, rfl⟩))
      have y1 := (kb.set 0 (.int .i64 0)).cell (j := 0) rfl
      have y2 := ((kb.set 0 (.int .i64 0)).set 1 (.int .i64 0)).cell (j := 1) rfl
      refine bodyPost_ret (v := .tuple #[.agg #[.int .i64 0, .int .i64 0], .int .i64 0, .bool false]) ?_ rfl ⟨rfl, ?_⟩
      · simp [results, Try.results17, go_sem, y1, y2]
      · exact ((below_alloc.trans (hb1.mono (by simp))).setCell (Nat.le_refl _) _).setCell (Nat.le_refl _) _
    | true =>
      have hp := inB_iff.1 h2
      have e0 := price_same (rv_of h1) hp.1
      have e1 : prU xs pr = up (pk (xP xs pr) (xs.length - 1)).1 := by simp [prU, h1, h2, e0]
      have e2 : prD xs pr = dn (pk (xP xs pr) (xs.length - 1)).1 := by simp [prD, h1, h2, e0]
      have e3 : prM xs pr = ((pk (xP xs pr) (xs.length - 1)).2 : Int) := by simp [prM, h1, h2, e0]
      rw [e1, e2, e3, Bool.true_and]
      exact priced_main b o c xs pr w h hc hm h1 h2 _ _ rfl

end Go.Proofs.Ytfbccnameppikaa
