/- spec.PricedPieces. -/
import Derived.Test.YtfbccnameppikaaPriced
import Derived.Test.YtfbccnameppikaaSLeast
import Derived.Deep.DeepCutAuto
namespace Go.Proofs.Ytfbccnameppikaa
open Go.RowKit

set_option maxHeartbeats 8000000 in
theorem spriced_main (b o c : Nat) (xs : List Int) (pr : Int) (w : World) (h : RowI w b o xs) (hm : xs.length ≤ 1099511627776) (h1 : rvB xs = true) (h2 : inB pr 0 500 = true) (v : Rat) (m : Nat) (hvm : pk (yP xs pr) (xs.length - 1) = (v, m)) :
    Calls Try.prog 18 #[.slice (some ⟨b, o, none⟩) xs.length c, .int .i64 pr] w
      fun e w' => e = .returned (.tuple #[.agg #[.int .i64 (up v), .int .i64 (dn v)], .int .i64 m, .bool true]) ∧ Below w.heap.size w w' := by
  have hv := rv_of h1
  have hp := inB_iff.1 h2
  have n0 := hv.n0
  have n8 := hv.n8
  have H := Lib.hid h
  have CV := Lib.hid (fun w (h : RowI w b o xs) => h1 ▸ validSteps_any b o c xs w h hm)
  have CI := Lib.hid (fun w => h2 ▸ inRange_any pr 0 500 w)
  have CL := Lib.hid (fun w (h : RowI w b o xs) => leastMisses_any b o c xs.length xs w h hv n0 n8)
  have PY := Lib.hid (fun i (hi : i < 8) => yP_pq hv hp.1 hp.2 hi)
  have PA := Lib.hid (fun i => (by
    have ha := amN_least misQ xs i xs.length hv.n0 (Nat.le_refl _)
    rw [List.take_length] at ha
    exact ha.pq misQ_good n8 hv.x : Pq 6048000 (amN misQ xs i xs.length)))
  have HVM := Lib.hid hvm
  have GQ := Lib.hid (show ∀ p, gq (rowA xs p (xs.length + 1)) xs.length = amN misQ xs p xs.length from fun p => gq_tab (by omega))
  have GL := Lib.hid (show ∀ p, (rowA xs p (xs.length + 1)).length = xs.length + 1 from fun p => tab_length _ _)
  have ST := Lib.hid (show ∀ i, yP xs pr i = amN misQ xs i xs.length + qd (pr * ((i : Int) + 1)) 1 from fun i => rfl)
  obtain ⟨n, hn⟩ : ∃ n, xs.length = n := ⟨_, rfl⟩
  have HN := Lib.hid hn
  rw [hn] at n0 n8 CL PA HVM GQ GL ST CV ⊢
  have s1 := PA.out 0
  have s3 := PY.out 0 (by omega)
  have e1 := ST.out 0
  obtain ⟨lq, hlq⟩ : ∃ lq, amN misQ xs 0 n = lq := ⟨_, rfl⟩
  rw [hlq] at s1 e1
  obtain ⟨zq, hzq⟩ : ∃ zq, qd pr 1 = zq := ⟨_, rfl⟩
  rw [show pr * (((0 : Nat) : Int) + 1) = pr by omega, hzq] at e1
  have s2 : Pq 6048000 zq := hzq ▸ (qd_pq hp.1 (by omega)).mono (by omega)
  obtain ⟨sm, hsm⟩ : ∃ sm, lq + zq = sm := ⟨_, rfl⟩
  rw [hsm] at e1
  have o1 := plus_ok s1 s2
  have FW := Lib.hid (fun w => sfrac_as pr 1 zq hzq w (by omega) (by omega) (by omega) (by omega) (by omega))
  have PW := Lib.hid (fun w => splus_any lq zq sm hsm w (by omega) (by omega))
  have E0 := Lib.hid e1
  have HLQ := Lib.hid hlq
  clear h hn hv hvm h1 h2 hm s1 s2 s3 e1 o1 hlq hzq hsm
  have t9 : (n : Int) < (n : Int) + 1 := by omega
  have t8 : (0 : Int) < (n : Int) := by omega
  have t7 : 0 < n := by omega
  go_enter Try.func18, Try.ntmps18
  go_upto_region 5 with (first
    | (go_at_call 35; refine (CV.out _ (H.out.below (by (repeat' (first | (with_reducible exact Below.refl _ _) | (with_reducible assumption) | (with_reducible refine Below.drewN ?_ _) | (with_reducible refine Below.alloc ?_ ?_ _) | (with_reducible refine Below.drew ?_) | (with_reducible refine Below.setCell ?_ ?_ _) | (with_reducible refine Below.trans ?_ (Below.mono (by assumption) ?_)) | go_size | (with_reducible refine Nat.le_trans ?_ (Below.size (by assumption)))))))).mono ?_; rintro e w1 ⟨rfl, rfl⟩)
    | (go_at_call 36; refine (CI.out _).mono ?_; rintro e w2 ⟨rfl, rfl⟩)
    | (go_at_call 39; refine (CL.out _ (H.out.below (by (repeat' (first | (with_reducible exact Below.refl _ _) | (with_reducible assumption) | (with_reducible refine Below.drewN ?_ _) | (with_reducible refine Below.alloc ?_ ?_ _) | (with_reducible refine Below.drew ?_) | (with_reducible refine Below.setCell ?_ ?_ _) | (with_reducible refine Below.trans ?_ (Below.mono (by assumption) ?_)) | go_size | (with_reducible refine Nat.le_trans ?_ (Below.size (by assumption)))))))).mono ?_; rintro e w3 ⟨g, cap, rfl, ho, hb3⟩; have hz3 := hb3.size; simp only [World.size_alloc] at hz3))
  have KB := Lib.hid ((Blk.made w #[.int .i64 0, .int .i64 0] 27).below hb3)
  have B3 := Lib.hid (below_alloc.trans (hb3.mono (by simp)) : Below w.heap.size w w3)
  have O := Lib.hid ho
  have lo := ho.lt
  obtain ⟨gr, cr, y0, r0⟩ := ho.row (j := 0) (by omega)
  rw [HN.out] at y0 r0
  have x1 := r0.f0 (k := n) (by rw [GL.out]; omega)
  have x2 := r0.f1 (k := n) (by rw [GL.out]; omega)
  rw [GQ.out, HLQ.out] at x1 x2
  clear r0 ho hb3
  go_cut [9] (fun s9 wx => ∃ g9, s9 = .pointer (some ⟨g9, 0, none⟩) ∧ w3.heap.size ≤ g9 ∧ Blk wx g9 27 (fc [sm]) ∧ Below w3.heap.size w3 wx)
  case first =>
    go_region_held3 (fun w' => w'.cell? ⟨g, 0, none⟩ = some (.slice (some ⟨gr, 0, none⟩) (n + 1) cr) ∧ w'.cell? ⟨gr, n * 2, none⟩ = some (.int .i64 (up lq)) ∧ w'.cell? ⟨gr, n * 2 + 1, none⟩ = some (.int .i64 (dn lq)) ∧ Below w3.heap.size w3 w')
      ((exact keepS3 (W := w3) (by (repeat' (first | (with_reducible exact Below.refl _ _) | (with_reducible assumption) | (with_reducible refine Below.drewN ?_ _) | (with_reducible refine Below.alloc ?_ ?_ _) | (with_reducible refine Below.drew ?_) | (with_reducible refine Below.setCell ?_ ?_ _) | (with_reducible refine Below.trans ?_ (Below.mono (by assumption) ?_)) | go_size | (with_reducible refine Nat.le_trans ?_ (Below.size (by assumption)))))) ⟨y0, x1, x2, Below.refl _ _⟩))
      ((first
        | (go_at_call 44; refine (FW.out _).mono ?_; rintro e w4 ⟨rfl, hb4⟩; obtain ⟨hc4, hf4⟩ := bcell hb4; have hz4 := hb4.size; (try simp only [World.size_alloc, World.size_drew] at hz4); (try have y3 : w3.heap.size < w4.heap.size := (by omega)))
        | (go_at_call 43; refine (PW.out _).mono ?_; rintro e w5 ⟨rfl, hb5⟩; obtain ⟨hc5, hf5⟩ := bcell hb5; have hz5 := hb5.size; (try simp only [World.size_alloc] at hz5); (try have y4 : w3.heap.size < w5.heap.size := (by omega)); (try have y5 : w4.heap.size < w5.heap.size := (by omega)))))
    all_goals go_wp2_with fail
    all_goals go_meet
    all_goals refine ⟨_, rfl, by omega, ?_, by (repeat' (first | (with_reducible exact Below.refl _ _) | (with_reducible assumption) | (with_reducible refine Below.drewN ?_ _) | (with_reducible refine Below.alloc ?_ ?_ _) | (with_reducible refine Below.drew ?_) | (with_reducible refine Below.setCell ?_ ?_ _) | (with_reducible refine Below.trans ?_ (Below.mono (by assumption) ?_)) | go_size | (with_reducible refine Nat.le_trans ?_ (Below.size (by assumption)))))⟩
    all_goals change Blk _ _ _ [.int .i64 (up sm), .int .i64 (dn sm)]
    all_goals (repeat' (first | ((with_reducible refine Blk.made' _ ?_ ?_) <;> first | rfl | (simp; done)) | (with_reducible refine Blk.two (x := .int .i64 0) (y := .int .i64 0) ?_ _ _) | (with_reducible refine Blk.drews ?_) | (with_reducible refine Blk.allocs ?_ _) | ((with_reducible refine Blk.others ?_ ?_); rotate_left; (focus (first | (simp; done) | (simp; omega)))) | (with_reducible refine Blk.below ?_ (by with_reducible assumption))))
  case rest =>
    obtain ⟨g9, rfl, hg9, hk9, hb9⟩ := hcut
    have hz9 := hb9.size
    have l9 := hk9.lt
    have K9 := Lib.hid hk9
    have B9 := Lib.hid hb9
    have hw9 : w.heap.size ≤ g9 := by omega
    have hne : g9 ≠ w.heap.size := by omega
    have hog : g < w3.heap.size := lo.2
    clear hk9 hb9 y0 x1 x2 FW PW lo HLQ
    go_wp2_with fail
    go_loopw [8, 10] (fun v8 v10 wr => ∃ i : Nat, v10 = .int .i64 ((i + 2 : Nat) : Int) ∧ i + 1 ≤ n ∧ v8 = .int .i64 ((pk (yP xs pr) i).2 : Int) ∧ Blk wr g9 27 (fc [(pk (yP xs pr) i).1]) ∧ Below w3.heap.size w3 wr) (fun _ v10 _ => n + 2 - (intOf v10).toNat)
    case atStart => exact ⟨0, rfl, n0, rfl, by rw [pk, E0.out]; exact K9.out, B9.out⟩
    case round =>
      clear K9 B9 hz9 l9
      obtain ⟨i, rfl, hi, rfl, hk9, hb⟩ := hrel
      have K9 := Lib.hid hk9
      have B := Lib.hid hb
      have ho := O.out.below hb
      have hkb := KB.out.below hb
      have hz := hb.size
      have l9 := hk9.lt
      by_cases hlt : i + 2 ≤ n
      · have s1 := PA.out (i + 1)
        have s3 := PY.out (i + 1) (by omega)
        have e1 := ST.out (i + 1)
        have s5 := pk_pq (F := yP xs pr) (B := 12096000) i fun k hk => PY.out k (by omega)
        have e2 : pk (yP xs pr) (i + 1) = if yP xs pr (i + 1) < (pk (yP xs pr) i).1 then (yP xs pr (i + 1), i + 2) else pk (yP xs pr) i := rfl
        obtain ⟨gr, cr, y0, r0⟩ := ho.row (j := i + 1) (by omega)
        rw [HN.out] at y0 r0
        have x1 := r0.f0 (k := n) (by rw [GL.out]; omega)
        have x2 := r0.f1 (k := n) (by rw [GL.out]; omega)
        rw [GQ.out] at x1 x2
        have bz := mul_price hp.1 hp.2 (i := i + 1) (by omega)
        rw [show (((i + 1 : Nat) : Int) + 1) = ((i + 2 : Nat) : Int) by omega] at e1 bz
        obtain ⟨lq, hlq⟩ : ∃ lq, amN misQ xs (i + 1) n = lq := ⟨_, rfl⟩
        rw [hlq] at s1 x1 x2 e1
        obtain ⟨P, hP⟩ : ∃ P, i + 2 = P := ⟨_, rfl⟩
        obtain ⟨p1, hp1⟩ : ∃ p1, i + 1 = p1 := ⟨_, rfl⟩
        rw [hP] at e1 e2 bz hlt ⊢
        rw [hp1] at e1 e2 s3 y0
        have hp1n : p1 < n := by omega
        have hPi : (P : Int) - 1 = (p1 : Int) := by omega
        have q1 : IntKind.i64.wrap ((P : Int) - 1) = (p1 : Int) := by rw [hPi]; exact IntWalk.i64_in _ (by omega)
        obtain ⟨z, hz0⟩ : ∃ z, pr * (P : Int) = z := ⟨_, rfl⟩
        rw [hz0] at e1 bz
        have q3 : IntKind.i64.wrap (pr * (P : Int)) = z := by rw [hz0]; exact IntWalk.i64_in _ (by omega)
        have q4 : IntKind.i64.wrap z = z := IntWalk.i64_in _ (by omega)
        have q5 : (p1 : Int) < (n : Int) := by omega
        have q6 : (0 : Int) ≤ (p1 : Int) := by omega
        obtain ⟨zq, hzq⟩ : ∃ zq, qd z 1 = zq := ⟨_, rfl⟩
        have s2 : Pq 6048000 zq := hzq ▸ (qd_pq bz.1 bz.2).mono (by omega)
        rw [hzq] at e1
        obtain ⟨sm, hsm⟩ : ∃ sm, lq + zq = sm := ⟨_, rfl⟩
        rw [hsm] at e1
        rw [e1] at s3 e2
        obtain ⟨bq, hbq⟩ : ∃ bq, (pk (yP xs pr) i).1 = bq := ⟨_, rfl⟩
        obtain ⟨mm, hmm⟩ : ∃ mm, (pk (yP xs pr) i).2 = mm := ⟨_, rfl⟩
        rw [hbq] at s5 e2 K9
        rw [hmm]
        have o1 := plus_ok s1 s2
        have o2 := less_ok s3 s5
        have FW := Lib.hid (fun w => sfrac_as z 1 zq hzq w (by omega) (by omega) (by omega) (by omega) (by omega))
        have PW := Lib.hid (fun w => splus_any lq zq sm hsm w (by omega) (by omega))
        have LW := Lib.hid (fun w => sless_any sm bq w (by omega))
        have E2 := Lib.hid e2
        have HBQ := Lib.hid hbq
        have HMM := Lib.hid hmm
        have HP' := Lib.hid hP
        have HP1 := Lib.hid hp1
        clear s1 s2 s3 s5 e1 e2 o1 o2 bz hlq hzq hsm hbq hmm r0 hk9 ho hkb hb hP hp1
        go_upto_region 9 with fail
        go_cut [11] (fun s11 wx => ∃ g11, s11 = .pointer (some ⟨g11, 0, none⟩) ∧ wr.heap.size ≤ g11 ∧ Blk wx g11 27 (fc [sm]) ∧ Below wr.heap.size wr wx)
        case first =>
          clear hPi hz0
          go_region_held3 (fun w' => w'.cell? ⟨g, p1, none⟩ = some (.slice (some ⟨gr, 0, none⟩) (n + 1) cr) ∧ w'.cell? ⟨gr, n * 2, none⟩ = some (.int .i64 (up lq)) ∧ w'.cell? ⟨gr, n * 2 + 1, none⟩ = some (.int .i64 (dn lq)) ∧ Below wr.heap.size wr w')
            ((exact keepS3 (W := wr) (by (repeat' (first | (with_reducible exact Below.refl _ _) | (with_reducible assumption) | (with_reducible refine Below.drewN ?_ _) | (with_reducible refine Below.alloc ?_ ?_ _) | (with_reducible refine Below.drew ?_) | (with_reducible refine Below.setCell ?_ ?_ _) | (with_reducible refine Below.trans ?_ (Below.mono (by assumption) ?_)) | go_size | (with_reducible refine Nat.le_trans ?_ (Below.size (by assumption)))))) ⟨y0, x1, x2, Below.refl _ _⟩))
            ((first
              | (go_at_call 44; refine (FW.out _).mono ?_; rintro e w4 ⟨rfl, hb4⟩; obtain ⟨hc4, hf4⟩ := bcell hb4; have hz4 := hb4.size; (try simp only [World.size_alloc, World.size_drew] at hz4); (try have y3 : wr.heap.size < w4.heap.size := (by omega)))
              | (go_at_call 43; refine (PW.out _).mono ?_; rintro e w5 ⟨rfl, hb5⟩; obtain ⟨hc5, hf5⟩ := bcell hb5; have hz5 := hb5.size; (try simp only [World.size_alloc] at hz5); (try have y4 : wr.heap.size < w5.heap.size := (by omega)); (try have y5 : w4.heap.size < w5.heap.size := (by omega)))))
          all_goals go_wp2_with fail
          all_goals go_meet
          all_goals refine ⟨_, rfl, by omega, ?_, by (repeat' (first | (with_reducible exact Below.refl _ _) | (with_reducible assumption) | (with_reducible refine Below.drewN ?_ _) | (with_reducible refine Below.alloc ?_ ?_ _) | (with_reducible refine Below.drew ?_) | (with_reducible refine Below.setCell ?_ ?_ _) | (with_reducible refine Below.trans ?_ (Below.mono (by assumption) ?_)) | go_size | (with_reducible refine Nat.le_trans ?_ (Below.size (by assumption)))))⟩
          all_goals change Blk _ _ _ [.int .i64 (up sm), .int .i64 (dn sm)]
          all_goals (repeat' (first | ((with_reducible refine Blk.made' _ ?_ ?_) <;> first | rfl | (simp; done)) | (with_reducible refine Blk.two (x := .int .i64 0) (y := .int .i64 0) ?_ _ _) | (with_reducible refine Blk.drews ?_) | (with_reducible refine Blk.allocs ?_ _) | ((with_reducible refine Blk.others ?_ ?_); rotate_left; (focus (first | (simp; done) | (simp; omega)))) | (with_reducible refine Blk.below ?_ (by with_reducible assumption))))
        case rest =>
          obtain ⟨g11, rfl, hg11, hk11, hb11⟩ := hcut
          have hz11 := hb11.size
          have K9 := Lib.hid (K9.out.below hb11)
          have B := Lib.hid (B.out.trans (hb11.mono hz))
          obtain ⟨v1, v2⟩ := hk11.one0
          obtain ⟨u1, u2⟩ := K9.out.one0
          have f1 := K9.out.frozen 0
          have f2 := K9.out.frozen 1
          have l9c := K9.out.lt
          clear hk11 hb11 y0 x1 x2 FW PW q3 hz0
          by_cases hcmp : sm < bq
          · have t1 : decide (sm < bq) = true := by simpa using hcmp
            have E3 := Lib.hid (show pk (yP xs pr) p1 = (sm, P) by rw [E2.out, if_pos hcmp])
            clear hcmp
            go_wp2_with (go_at_call 45; refine (LW.out _).mono ?_; rintro e w7 ⟨rfl, hb7⟩; have v1 := keepC hb7 v1; have v2 := keepC hb7 v2; have u1 := keepC hb7 u1; have u2 := keepC hb7 u2; have f1 := keepF hb7 l9c f1; have f2 := keepF hb7 l9c f2; have hz7 := hb7.size; have l7d := Nat.lt_of_lt_of_le l9c hz7)
            go_roundw
            case rel =>
              have hP := HP'.out
              have hp1 := HP1.out
              refine ⟨p1, by rw [← hP, ← hp1]; go_num, by omega, by rw [E3.out], ?_, ((B.out.trans (hb7.mono (by omega))).setCell hg9 _).setCell hg9 _⟩
              rw [E3.out]
              exact (K9.out.below hb7).two (x := .int .i64 (up bq)) (y := .int .i64 (dn bq)) _ _
            case measure => simp [intOf]; omega
          · have t1 : decide (sm < bq) = false := by simpa using hcmp
            have E3 := Lib.hid (show pk (yP xs pr) p1 = pk (yP xs pr) i by rw [E2.out, if_neg hcmp])
            clear hcmp
            go_wp2_with (go_at_call 45; refine (LW.out _).mono ?_; rintro e w7 ⟨rfl, hb7⟩; have hz7 := hb7.size)
            go_roundw
            case rel =>
              have hP := HP'.out
              have hp1 := HP1.out
              exact ⟨p1, by rw [← hP, ← hp1]; go_num, by omega, by rw [E3.out, HMM.out], by rw [E3.out, HBQ.out]; exact K9.out.below hb7, B.out.trans (hb7.mono (by omega))⟩
            case measure => simp [intOf]; omega
      · have hin : i = n - 1 := by omega
        have hvm := HVM.out
        rw [← hin] at hvm
        rw [hvm] at hk9 ⊢
        obtain ⟨u1, u2⟩ := hk9.one0
        have k0 := hkb.cell (j := 0) rfl
        have k1 := hkb.cell (j := 1) rfl
        have f0 := hkb.frozen 0
        have f1 := hkb.frozen 1
        have y1 := (hkb.set 0 (.int .i64 (up v))).cell (j := 0) rfl
        have y2 := ((hkb.set 0 (.int .i64 (up v))).set 1 (.int .i64 (dn v))).cell (j := 1) rfl
        have lkb := hkb.lt
        clear hvm HVM hin hk9 hkb ho
        go_wp2_with fail
        refine bodyPost_ret (v := .tuple #[.agg #[.int .i64 (up v), .int .i64 (dn v)], .int .i64 m, .bool true]) ?_ rfl ⟨rfl, ?_⟩
        · simp [results, Try.results18, go_sem, y1, y2]
        · exact ((B3.out.trans (hb.mono B3.out.size)).setCell (Nat.le_refl _) _).setCell (Nat.le_refl _) _


set_option maxHeartbeats 2000000 in
theorem spriced_any (b o c : Nat) (xs : List Int) (pr : Int) (w : World) (h : RowI w b o xs) (hm : xs.length ≤ 1099511627776) :
    Calls Try.prog 18 #[.slice (some ⟨b, o, none⟩) xs.length c, .int .i64 pr] w
      fun e w' => e = .returned (.tuple #[.agg #[.int .i64 (prU xs pr), .int .i64 (prD xs pr)], .int .i64 (prM xs pr), .bool (rvB xs && inB pr 0 500)]) ∧ Below w.heap.size w w' := by
  cases h1 : rvB xs with
  | false =>
    have H := Lib.hid h
    have CV := Lib.hid (fun w (h : RowI w b o xs) => h1 ▸ validSteps_any b o c xs w h hm)
    have e1 : prU xs pr = 0 := by simp [prU, h1]
    have e2 : prD xs pr = 0 := by simp [prD, h1]
    have e3 : prM xs pr = 0 := by simp [prM, h1]
    rw [e1, e2, e3, Bool.false_and]
    clear e1 e2 e3 h1 h
    go_enter Try.func18, Try.ntmps18
    go_wp2_with (go_at_call 35; refine (CV.out _ (H.out.below (by (repeat' (first | (with_reducible exact Below.refl _ _) | (with_reducible assumption) | (with_reducible refine Below.drewN ?_ _) | (with_reducible refine Below.alloc ?_ ?_ _) | (with_reducible refine Below.drew ?_) | (with_reducible refine Below.setCell ?_ ?_ _) | (with_reducible refine Below.trans ?_ (Below.mono (by assumption) ?_)) | go_size | (with_reducible refine Nat.le_trans ?_ (Below.size (by assumption)))))))).mono ?_; rintro e w1 ⟨rfl, rfl⟩)
    refine bodyPost_ret (v := .tuple #[.agg #[.int .i64 0, .int .i64 0], .int .i64 0, .bool false]) (by simp [results, Try.results18, go_sem]) rfl ⟨rfl, by (repeat' (first | (with_reducible exact Below.refl _ _) | (with_reducible assumption) | (with_reducible refine Below.drewN ?_ _) | (with_reducible refine Below.alloc ?_ ?_ _) | (with_reducible refine Below.drew ?_) | (with_reducible refine Below.setCell ?_ ?_ _) | (with_reducible refine Below.trans ?_ (Below.mono (by assumption) ?_)) | go_size | (with_reducible refine Nat.le_trans ?_ (Below.size (by assumption)))))⟩
  | true =>
    cases h2 : inB pr 0 500 with
    | false =>
      have H := Lib.hid h
      have CV := Lib.hid (fun w (h : RowI w b o xs) => h1 ▸ validSteps_any b o c xs w h hm)
      have CI := Lib.hid (fun w => h2 ▸ inRange_any pr 0 500 w)
      have e1 : prU xs pr = 0 := by simp [prU, h2]
      have e2 : prD xs pr = 0 := by simp [prD, h2]
      have e3 : prM xs pr = 0 := by simp [prM, h2]
      rw [e1, e2, e3, Bool.true_and]
      clear e1 e2 e3 h1 h2 h
      go_enter Try.func18, Try.ntmps18
      go_wp2_with (first | (go_at_call 35; refine (CV.out _ (H.out.below (by (repeat' (first | (with_reducible exact Below.refl _ _) | (with_reducible assumption) | (with_reducible refine Below.drewN ?_ _) | (with_reducible refine Below.alloc ?_ ?_ _) | (with_reducible refine Below.drew ?_) | (with_reducible refine Below.setCell ?_ ?_ _) | (with_reducible refine Below.trans ?_ (Below.mono (by assumption) ?_)) | go_size | (with_reducible refine Nat.le_trans ?_ (Below.size (by assumption)))))))).mono ?_; rintro e w1 ⟨rfl, rfl⟩) | (go_at_call 36; refine (CI.out _).mono ?_; rintro e w2 ⟨rfl, rfl⟩))
      refine bodyPost_ret (v := .tuple #[.agg #[.int .i64 0, .int .i64 0], .int .i64 0, .bool false]) (by simp [results, Try.results18, go_sem]) rfl ⟨rfl, by (repeat' (first | (with_reducible exact Below.refl _ _) | (with_reducible assumption) | (with_reducible refine Below.drewN ?_ _) | (with_reducible refine Below.alloc ?_ ?_ _) | (with_reducible refine Below.drew ?_) | (with_reducible refine Below.setCell ?_ ?_ _) | (with_reducible refine Below.trans ?_ (Below.mono (by assumption) ?_)) | go_size | (with_reducible refine Nat.le_trans ?_ (Below.size (by assumption)))))⟩
    | true =>
      have e1 : prU xs pr = up (pk (yP xs pr) (xs.length - 1)).1 := by simp [prU, h1, h2]
      have e2 : prD xs pr = dn (pk (yP xs pr) (xs.length - 1)).1 := by simp [prD, h1, h2]
      have e3 : prM xs pr = ((pk (yP xs pr) (xs.length - 1)).2 : Int) := by simp [prM, h1, h2]
      rw [e1, e2, e3, Bool.true_and]
      exact spriced_main b o c xs pr w h hm h1 h2 _ _ rfl

end Go.Proofs.Ytfbccnameppikaa
