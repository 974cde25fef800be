/- spec.cutFrom and spec.PiecesTried: the least sum of pieces, by trying. -/
import Derived.Test.YtfbccnameppikaaMisB
import Derived.Test.YtfbccnameppikaaFRow
import Derived.Test.YtfbccnameppikaaBlk2
namespace Go.Proofs.Ytfbccnameppikaa
open Go.RowKit

theorem Blk.one0 {w : World} {g : Nat} {q : Rat} (h : Blk w g 27 (fc [q])) : w.cell? ⟨g, 0, none⟩ = some (.int .i64 (up q)) ∧ w.cell? ⟨g, 1, none⟩ = some (.int .i64 (dn q)) :=
  ⟨h.cell (j := 0) rfl, h.cell (j := 1) rfl⟩
theorem plus_ok {p q : Rat} (hp : Pq 6048000 p) (hq : Pq 6048000 q) : dn p * dn q ≤ 4611686018427387904 ∧ (up p).natAbs * dn q + (up q).natAbs * dn p ≤ 4611686018427387904 ∧ Pq 12096000 (p + q) := by
  have := sm_mul hp.sm hq.sm
  exact ⟨by omega, by omega, (hp.add hq).mono (by omega)⟩
theorem less_ok {p q : Rat} (hp : Pq 12096000 p) (hq : Pq 12096000 q) : dn p * dn q ≤ 4611686018427387904 ∧ (up p).natAbs * dn q + (up q).natAbs * dn p ≤ 4611686018427387904 := by
  have := sm_mul hp.sm hq.sm
  exact ⟨by omega, by omega⟩
theorem misQ_pcq {xs : List Int} {i k : Nat} (hik : i < k) (hk : k ≤ xs.length) (h8 : xs.length ≤ 8) (h30 : In30 xs) : Pq 6048000 (misQ (pc xs i k)) := by
  have := pc_length (a := i) hk
  exact (misQ_good _ (pc_ne hk hik) (by omega) (h30.pc i k)).mono (by omega)

set_option maxHeartbeats 2000000 in
theorem cutFrom_zero (b o c : Nat) (xs : List Int) (h8 : xs.length ≤ 8) (h30 : In30 xs) (i : Nat) (q : Rat) (w : World) (hi : i < xs.length) (h : RowI w b o xs) (hq : misQ (pc xs i xs.length) = q) :
    Calls Try.prog 37 #[.slice (some ⟨b, o, none⟩) xs.length c, .int .i64 i, .int .i64 1] w fun e w' => e = .returned (.agg #[.int .i64 (up q), .int .i64 (dn q)]) ∧ Below w.heap.size w w' := by
  have H := Lib.hid h
  have CM := Lib.hid (fun w (h : RowI w b o xs) => smiss_any b o c i xs.length xs q w h hi (Nat.le_refl _) h8 h30 hq)
  have t0 : ((i : Int) == (xs.length : Int)) = false := by simp; omega
  clear h h30 hq
  by_cases hlt : i + 1 < xs.length
  all_goals
    go_enter Try.func37, Try.ntmps37
    go_wp2_with (go_at_call 54; refine (CM.out _ (H.out.below (by (repeat' (first | (with_reducible exact Below.refl _ _) | (with_reducible assumption) | (with_reducible refine Below.drewN ?_ _) | (with_reducible refine Below.alloc ?_ ?_ _) | (with_reducible refine Below.drew ?_) | (with_reducible refine Below.setCell ?_ ?_ _) | (with_reducible refine Below.trans ?_ (Below.mono (by assumption) ?_)) | go_size | (with_reducible refine Nat.le_trans ?_ (Below.size (by assumption)))))))).mono ?_; rintro e w2 ⟨rfl, hb2⟩; have hz2 := hb2.size; simp only [World.size_alloc] at hz2; have kb := Lib.hid ((Blk.made w #[.int .i64 0, .int .i64 0] 27).below hb2))
    obtain ⟨g7, hg7⟩ : ∃ g7, w2.heap.size = g7 := ⟨_, rfl⟩
    have hbk7 : Blk (w2.alloc (.cells #[.int .i64 (up q), .int .i64 (dn q)] 27)) g7 27 (fc [q]) := by rw [← hg7]; exact Blk.made w2 #[.int .i64 (up q), .int .i64 (dn q)] 27
    rw [hg7] at hz2 ⊢
    have K7 := Lib.hid hbk7
    have BW := Lib.hid (show Below w.heap.size w (w2.alloc (.cells #[.int .i64 (up q), .int .i64 (dn q)] 27)) from (below_alloc.trans (hb2.mono (by simp))).alloc (by omega) _)
    have kb' := Lib.hid (kb.out.below (show Below w2.heap.size w2 (w2.alloc (.cells #[.int .i64 (up q), .int .i64 (dn q)] 27)) from below_alloc))
    obtain ⟨w3, hw3⟩ : ∃ w3, w2.alloc (.cells #[.int .i64 (up q), .int .i64 (dn q)] 27) = w3 := ⟨_, rfl⟩
    rw [hw3] at K7 BW kb' ⊢
    clear hbk7 hb2 kb hw3 hg7
    go_loopw [8] (fun v8 wr => v8 = .int .i64 ((i : Int) + 1) ∧ Blk wr w.heap.size 27 [.int .i64 0, .int .i64 0] ∧ Blk wr g7 27 (fc [q]) ∧ Below w.heap.size w wr) (fun _ _ => 0)
    case atStart => exact ⟨rfl, kb'.out, K7.out, BW.out⟩
    case round =>
      clear kb' K7 BW
      obtain ⟨rfl, hk0, hk7, hb⟩ := hrel
      have kl := hk0.lt
      have k0 := hk0.cell (j := 0) rfl
      have k1 := hk0.cell (j := 1) rfl
      have f0 := hk0.frozen 0
      have f1 := hk0.frozen 1
      obtain ⟨x1, x2⟩ := hk7.one0
      have y1 := (hk0.set 0 (.int .i64 (up q))).cell (j := 0) rfl
      have y2 := ((hk0.set 0 (.int .i64 (up q))).set 1 (.int .i64 (dn q))).cell (j := 1) rfl
      clear hk0 hk7
      go_wp2_with fail
      refine bodyPost_ret (v := .agg #[.int .i64 (up q), .int .i64 (dn q)]) ?_ rfl ⟨rfl, ?_⟩
      · simp [results, Try.results37, go_sem, y1, y2]
      · exact (hb.setCell (Nat.le_refl _) _).setCell (Nat.le_refl _) _

set_option maxHeartbeats 4000000 in
theorem cutFrom_step (b o c : Nat) (xs : List Int) (h8 : xs.length ≤ 8) (h30 : In30 xs) (i : Nat) (p : Int) (R : Nat → Rat) (w : World) (hi : i < xs.length) (h : RowI w b o xs) (hp : 2 ≤ p) (hp9 : p ≤ 9)
    (hR : ∀ k, k < xs.length → Pq 6048000 (R k)) (hD : ∀ d, d < xs.length - i → Pq 6048000 (cfD misQ xs R i d))
    (ih : ∀ (k : Nat) (w : World), k < xs.length → RowI w b o xs →
      Calls Try.prog 37 #[.slice (some ⟨b, o, none⟩) xs.length c, .int .i64 k, .int .i64 (p - 1)] w fun e w' => e = .returned (.agg #[.int .i64 (up (R k)), .int .i64 (dn (R k))]) ∧ Below w.heap.size w w')
    (q : Rat) (hq : cfD misQ xs R i (xs.length - i - 1) = q) :
    Calls Try.prog 37 #[.slice (some ⟨b, o, none⟩) xs.length c, .int .i64 i, .int .i64 p] w fun e w' => e = .returned (.agg #[.int .i64 (up q), .int .i64 (dn q)]) ∧ Below w.heap.size w w' := by
  have H := Lib.hid h
  obtain ⟨q0, hq0⟩ : ∃ q0, misQ (pc xs i xs.length) = q0 := ⟨_, rfl⟩
  have CM := Lib.hid (fun w (h : RowI w b o xs) => smiss_any b o c i xs.length xs q0 w h hi (Nat.le_refl _) h8 h30 hq0)
  have HQ0 := Lib.hid (show cfD misQ xs R i 0 = q0 by rw [cfD, ← pc_all, hq0])
  have t0 : ((i : Int) == (xs.length : Int)) = false := by simp; omega
  have H30 := Lib.hid h30
  have HR := Lib.hid hR
  have HD := Lib.hid hD
  have IH := Lib.hid ih
  have HQ := Lib.hid hq
  clear h h30 hq hq0 hR hD ih
  go_enter Try.func37, Try.ntmps37
  go_wp2_with (go_at_call 54; refine (CM.out _ (H.out.below (by (repeat' (first | (with_reducible exact Below.refl _ _) | (with_reducible assumption) | (with_reducible refine Below.drewN ?_ _) | (with_reducible refine Below.alloc ?_ ?_ _) | (with_reducible refine Below.drew ?_) | (with_reducible refine Below.setCell ?_ ?_ _) | (with_reducible refine Below.trans ?_ (Below.mono (by assumption) ?_)) | go_size | (with_reducible refine Nat.le_trans ?_ (Below.size (by assumption)))))))).mono ?_; rintro e w2 ⟨rfl, hb2⟩; have hz2 := hb2.size; simp only [World.size_alloc] at hz2; have kb := Lib.hid ((Blk.made w #[.int .i64 0, .int .i64 0] 27).below hb2))
  obtain ⟨g7, hg7⟩ : ∃ g7, w2.heap.size = g7 := ⟨_, rfl⟩
  have hbk7 : Blk (w2.alloc (.cells #[.int .i64 (up q0), .int .i64 (dn q0)] 27)) g7 27 (fc [q0]) := by rw [← hg7]; exact Blk.made w2 #[.int .i64 (up q0), .int .i64 (dn q0)] 27
  rw [hg7] at hz2 ⊢
  have K7 := Lib.hid hbk7
  have BW := Lib.hid (show Below w.heap.size w (w2.alloc (.cells #[.int .i64 (up q0), .int .i64 (dn q0)] 27)) from (below_alloc.trans (hb2.mono (by simp))).alloc (by omega) _)
  have kb' := Lib.hid (kb.out.below (show Below w2.heap.size w2 (w2.alloc (.cells #[.int .i64 (up q0), .int .i64 (dn q0)] 27)) from below_alloc))
  obtain ⟨w3, hw3⟩ : ∃ w3, w2.alloc (.cells #[.int .i64 (up q0), .int .i64 (dn q0)] 27) = w3 := ⟨_, rfl⟩
  rw [hw3] at K7 BW kb' ⊢
  clear hbk7 hb2 kb hw3 hg7
  go_loopw [8] (fun v8 wr => ∃ d : Nat, v8 = .int .i64 ((i + 1 + d : Nat) : Int) ∧ i + 1 + d ≤ xs.length ∧ Blk wr w.heap.size 27 [.int .i64 0, .int .i64 0] ∧ Blk wr g7 27 (fc [cfD misQ xs R i d]) ∧ Below w.heap.size w wr) (fun v8 _ => xs.length - (intOf v8).toNat)
  case atStart => exact ⟨0, by go_num, by omega, kb'.out, by rw [HQ0.out]; exact K7.out, BW.out⟩
  case round =>
    clear kb' K7 BW
    obtain ⟨d, rfl, hd, hk0, hk7, hb⟩ := hrel
    have K0 := Lib.hid hk0
    have K7 := Lib.hid hk7
    have hz := hb.size
    have l0 := hk0.lt
    have l7 := hk7.lt
    by_cases hlt : i + 1 + d < xs.length
    · have s1 := HD.out d (by omega)
      have s2 := HD.out (d + 1) (by omega)
      have s3 := HR.out (i + 1 + d) hlt
      have s4 := misQ_pcq (i := i) (k := i + 1 + d) (by omega) (by omega) h8 H30.out
      have e1 : cfD misQ xs R i (d + 1) = mnR (cfD misQ xs R i d) (misQ (pc xs i (i + 1 + d)) + R (i + 1 + d)) := rfl
      have CR := fun w (h : RowI w b o xs) => IH.out (i + 1 + d) w hlt h
      have x1 := hk7.one0
      obtain ⟨bq, hbq⟩ : ∃ bq, cfD misQ xs R i d = bq := ⟨_, rfl⟩
      rw [hbq] at s1 e1 x1
      have BQ := Lib.hid hbq
      obtain ⟨mq, hmq⟩ : ∃ mq, misQ (pc xs i (i + 1 + d)) = mq := ⟨_, rfl⟩
      have CP := fun w (h : RowI w b o xs) => smiss_any b o c i (i + 1 + d) xs mq w h (by omega) (by omega) h8 H30.out hmq
      rw [hmq] at s4 e1
      obtain ⟨rq, hrq⟩ : ∃ rq, R (i + 1 + d) = rq := ⟨_, rfl⟩
      rw [hrq] at s3 e1 CR
      obtain ⟨xq, hxq⟩ : ∃ xq, mq + rq = xq := ⟨_, rfl⟩
      rw [hxq] at e1
      have o1 := plus_ok s4 s3
      rw [hxq] at o1
      have o2 := less_ok o1.2.2 (s1.mono (show (6048000 : Int) ≤ 12096000 by omega))
      have PW := Lib.hid (fun w => splus_any mq rq xq hxq w (by omega) (by omega))
      have LW := Lib.hid (fun w => sless_any xq bq w (by omega))
      obtain ⟨j, hj⟩ : ∃ j, i + 1 + d = j := ⟨_, rfl⟩
      rw [hj] at CR CP hlt hd ⊢
      have CR := Lib.hid CR
      have CP := Lib.hid CP
      have HJ := Lib.hid hj
      have E1 := Lib.hid e1
      obtain ⟨x1, x2⟩ := x1
      have f1 := hk7.frozen 0
      have f2 := hk7.frozen 1
      have hbw := Lib.hid hb
      clear s1 s2 s3 s4 e1 hbq hmq hrq hxq o1 o2 hj hk0 hk7 hb
      by_cases hc : xq < bq
      · have t1 : decide (xq < bq) = true := by simpa using hc
        have E2 := Lib.hid (show cfD misQ xs R i (d + 1) = xq by rw [E1.out, mnR, if_pos hc])
        clear hc
        go_wp2_with (first
          | (go_at_call 54; refine (CP.out _ (H.out.below hbw.out)).mono ?_; rintro e w4 ⟨rfl, hb4⟩; have hz4 := hb4.size)
          | (go_at_call 37; refine (CR.out _ ((H.out.below hbw.out).below hb4)).mono ?_; rintro e w5 ⟨rfl, hb5⟩; have hz5 := hb5.size)
          | (go_at_call 43; refine (PW.out _).mono ?_; rintro e w6 ⟨rfl, hb6⟩; have hz6 := hb6.size; have b6 : Below wr.heap.size wr w6 := (hb4.trans (hb5.mono hz4)).trans (hb6.mono (Nat.le_trans hz4 hz5)); have x1 := keepC b6 x1; have x2 := keepC b6 x2; have f1 := keepF b6 l7 f1; have f2 := keepF b6 l7 f2; have z6 : g7 < w6.heap.size := Nat.lt_of_lt_of_le l7 b6.size)
          | (go_at_call 45; refine (LW.out _).mono ?_; rintro e w7 ⟨rfl, hb7⟩; have hz7 := hb7.size; simp only [World.size_alloc] at hz7; obtain ⟨hc7, hf7⟩ := bcell hb7))
        have hne : w.heap.size ≠ g7 := by omega
        have hle7 : w.heap.size ≤ g7 := by omega
        go_roundw
        case rel =>
          have B7 : Below wr.heap.size wr w7 := (b6.alloc b6.size _).trans (hb7.mono (by simp; exact Nat.le_of_lt (Nat.lt_succ_of_le b6.size)))
          refine ⟨d + 1, by have := HJ.out; rw [← this]; go_num, by have := HJ.out; omega, ((K0.out.below B7).others (Ne.symm hne)).others (Ne.symm hne), ?_, ((hbw.out.trans (B7.mono hz)).setCell hle7 _).setCell hle7 _⟩
          rw [E2.out]
          exact (K7.out.below B7).two (x := .int .i64 (up (cfD misQ xs R i d))) (y := .int .i64 (dn (cfD misQ xs R i d))) _ _
        case measure => simp [intOf]; omega
      · have t1 : decide (xq < bq) = false := by simpa using hc
        have E2 := Lib.hid (show cfD misQ xs R i (d + 1) = cfD misQ xs R i d by rw [E1.out, mnR, if_neg hc, BQ.out])
        clear hc
        go_wp2_with (first
          | (go_at_call 54; refine (CP.out _ (H.out.below hbw.out)).mono ?_; rintro e w4 ⟨rfl, hb4⟩; have hz4 := hb4.size)
          | (go_at_call 37; refine (CR.out _ ((H.out.below hbw.out).below hb4)).mono ?_; rintro e w5 ⟨rfl, hb5⟩; have hz5 := hb5.size)
          | (go_at_call 43; refine (PW.out _).mono ?_; rintro e w6 ⟨rfl, hb6⟩; have hz6 := hb6.size; have b6 : Below wr.heap.size wr w6 := (hb4.trans (hb5.mono hz4)).trans (hb6.mono (Nat.le_trans hz4 hz5)); have x1 := keepC b6 x1; have x2 := keepC b6 x2; have f1 := keepF b6 l7 f1; have f2 := keepF b6 l7 f2; have z6 : g7 < w6.heap.size := Nat.lt_of_lt_of_le l7 b6.size)
          | (go_at_call 45; refine (LW.out _).mono ?_; rintro e w7 ⟨rfl, hb7⟩; have hz7 := hb7.size; simp only [World.size_alloc] at hz7; obtain ⟨hc7, hf7⟩ := bcell hb7))
        go_roundw
        case rel =>
          have B7 : Below wr.heap.size wr w7 := (b6.alloc b6.size _).trans (hb7.mono (by simp; exact Nat.le_of_lt (Nat.lt_succ_of_le b6.size)))
          exact ⟨d + 1, by have := HJ.out; rw [← this]; go_num, by have := HJ.out; omega, K0.out.below B7, by rw [E2.out]; exact K7.out.below B7, hbw.out.trans (B7.mono hz)⟩
        case measure => simp [intOf]; omega
    · have hdd : d = xs.length - i - 1 := by omega
      have hqq : cfD misQ xs R i d = q := by rw [hdd]; exact HQ.out
      rw [hqq] at hk7
      have k0 := hk0.cell (j := 0) rfl
      have k1 := hk0.cell (j := 1) rfl
      have f0 := hk0.frozen 0
      have f1 := hk0.frozen 1
      obtain ⟨x1, x2⟩ := hk7.one0
      have y1 := (hk0.set 0 (.int .i64 (up q))).cell (j := 0) rfl
      have y2 := ((hk0.set 0 (.int .i64 (up q))).set 1 (.int .i64 (dn q))).cell (j := 1) rfl
      clear hk0 hk7 hdd hqq K0 K7 HQ
      go_wp2_with fail
      refine bodyPost_ret (v := .agg #[.int .i64 (up q), .int .i64 (dn q)]) ?_ rfl ⟨rfl, ?_⟩
      · simp [results, Try.results37, go_sem, y1, y2]
      · exact (hb.setCell (Nat.le_refl _) _).setCell (Nat.le_refl _) _

theorem cutFrom_any (b o c : Nat) (xs : List Int) (h8 : xs.length ≤ 8) (h30 : In30 xs) : ∀ (m i : Nat) (p : Int) (w : World), i < xs.length → RowI w b o xs → p = (m : Int) + 1 → m ≤ 8 →
    Calls Try.prog 37 #[.slice (some ⟨b, o, none⟩) xs.length c, .int .i64 i, .int .i64 p] w fun e w' => e = .returned (.agg #[.int .i64 (up (cfN misQ xs m i)), .int .i64 (dn (cfN misQ xs m i))]) ∧ Below w.heap.size w w'
  | 0, i, p, w, hi, h, hp, _ => by
    obtain rfl : p = 1 := by omega
    exact cutFrom_zero b o c xs h8 h30 i _ w hi h (by rw [pc_all]; rfl)
  | m + 1, i, p, w, hi, h, hp, hm => by
    have hdl : ∀ i, (xs.drop i).length ≤ 8 := fun i => by rw [List.length_drop]; omega
    refine cutFrom_step b o c xs h8 h30 i p (cfN misQ xs m) w hi h (by omega) (by omega) (fun k hk => (cfN_least misQ xs m k hk).pq misQ_good (hdl k) (h30.drop k)) (fun d hd => ?_) (fun k w hk h => cutFrom_any b o c xs h8 h30 m k (p - 1) w hk h (by omega) (by omega)) _ rfl
    rcases cfD_or misQ xs (cfN misQ xs m) i d with e | ⟨k, h1, h2, e⟩
    · rw [e, ← pc_all]; exact misQ_pcq hi (Nat.le_refl _) h8 h30
    · obtain ⟨M, g1, g2, g3⟩ := (cfN_least misQ xs m k (by omega)).got
      rw [e, ← g3]
      exact (g1.cons (pc_ne (by omega) h1) (pc_drop (by omega))).pq misQ_good (hdl i) (h30.drop i)

/-- What PiecesTried of the reference returns. -/
def ptU (xs : List Int) (p : Int) : Int := if rvB xs && inB p 1 8 then up (cfN misQ xs (p - 1).toNat 0) else 0
def ptD (xs : List Int) (p : Int) : Int := if rvB xs && inB p 1 8 then dn (cfN misQ xs (p - 1).toNat 0) else 0

set_option maxHeartbeats 1000000 in
theorem spiecesTried_any (b o c : Nat) (xs : List Int) (p : Int) (w : World) (h : RowI w b o xs) (hm : xs.length ≤ 1099511627776) :
    Calls Try.prog 9 #[.slice (some ⟨b, o, none⟩) xs.length c, .int .i64 p] w
      fun e w' => e = .returned (.tuple #[.agg #[.int .i64 (ptU xs p), .int .i64 (ptD xs p)], .bool (rvB xs && inB p 1 8)]) ∧ Below w.heap.size w w' := by
  have H := Lib.hid h
  clear h
  have CV := Lib.hid (fun w (h : RowI w b o xs) => validSteps_any b o c xs w h hm)
  cases h1 : rvB xs with
  | false =>
    have e1 : ptU xs p = 0 := by simp [ptU, h1]
    have e2 : ptD xs p = 0 := by simp [ptD, h1]
    rw [h1] at CV
    rw [e1, e2, Bool.false_and]
    clear e1 e2 h1
    go_enter Try.func9, Try.ntmps9
    go_wp2_with (go_at_call 35; refine (CV.out _ (H.out.below (by (repeat' (first | (with_reducible exact Below.refl _ _) | (with_reducible assumption) | (with_reducible refine Below.drewN ?_ _) | (with_reducible refine Below.alloc ?_ ?_ _) | (with_reducible refine Below.drew ?_) | (with_reducible refine Below.setCell ?_ ?_ _) | (with_reducible refine Below.trans ?_ (Below.mono (by assumption) ?_)) | go_size | (with_reducible refine Nat.le_trans ?_ (Below.size (by assumption)))))))).mono ?_; rintro e w1 ⟨rfl, rfl⟩)
    refine bodyPost_ret (v := .tuple #[.agg #[.int .i64 0, .int .i64 0], .bool false]) (by simp [results, Try.results9, go_sem]) rfl ⟨rfl, by (repeat' (first | (with_reducible exact Below.refl _ _) | (with_reducible assumption) | (with_reducible refine Below.drewN ?_ _) | (with_reducible refine Below.alloc ?_ ?_ _) | (with_reducible refine Below.drew ?_) | (with_reducible refine Below.setCell ?_ ?_ _) | (with_reducible refine Below.trans ?_ (Below.mono (by assumption) ?_)) | go_size | (with_reducible refine Nat.le_trans ?_ (Below.size (by assumption)))))⟩
  | true =>
    rw [h1] at CV
    have hv := rv_of h1
    cases h2 : inB p 1 8 with
    | false =>
      have e1 : ptU xs p = 0 := by simp [ptU, h2]
      have e2 : ptD xs p = 0 := by simp [ptD, h2]
      have C2 := Lib.hid (fun w => h2 ▸ inRange_any p 1 8 w)
      rw [e1, e2, Bool.true_and]
      clear e1 e2 h1 h2 hv
      go_enter Try.func9, Try.ntmps9
      go_wp2_with (first | (go_at_call 35; refine (CV.out _ (H.out.below (by (repeat' (first | (with_reducible exact Below.refl _ _) | (with_reducible assumption) | (with_reducible refine Below.drewN ?_ _) | (with_reducible refine Below.alloc ?_ ?_ _) | (with_reducible refine Below.drew ?_) | (with_reducible refine Below.setCell ?_ ?_ _) | (with_reducible refine Below.trans ?_ (Below.mono (by assumption) ?_)) | go_size | (with_reducible refine Nat.le_trans ?_ (Below.size (by assumption)))))))).mono ?_; rintro e w1 ⟨rfl, rfl⟩) | (go_at_call 36; refine (C2.out _).mono ?_; rintro e w1 ⟨rfl, rfl⟩))
      refine bodyPost_ret (v := .tuple #[.agg #[.int .i64 0, .int .i64 0], .bool false]) (by simp [results, Try.results9, go_sem]) rfl ⟨rfl, by (repeat' (first | (with_reducible exact Below.refl _ _) | (with_reducible assumption) | (with_reducible refine Below.drewN ?_ _) | (with_reducible refine Below.alloc ?_ ?_ _) | (with_reducible refine Below.drew ?_) | (with_reducible refine Below.setCell ?_ ?_ _) | (with_reducible refine Below.trans ?_ (Below.mono (by assumption) ?_)) | go_size | (with_reducible refine Nat.le_trans ?_ (Below.size (by assumption)))))⟩
    | true =>
      have hp := inB_iff.1 h2
      have C2 := Lib.hid (fun w => h2 ▸ inRange_any p 1 8 w)
      have C3 := Lib.hid (fun w (h : RowI w b o xs) => cutFrom_any b o c xs hv.n8 hv.x (p - 1).toNat 0 p w hv.n0 h (by omega) (by omega))
      have e1 : ptU xs p = up (cfN misQ xs (p - 1).toNat 0) := by simp [ptU, h1, h2]
      have e2 : ptD xs p = dn (cfN misQ xs (p - 1).toNat 0) := by simp [ptD, h1, h2]
      rw [e1, e2, Bool.true_and]
      obtain ⟨q, hq⟩ : ∃ q, cfN misQ xs (p - 1).toNat 0 = q := ⟨_, rfl⟩
      rw [hq] at C3 ⊢
      clear e1 e2 h1 h2 hv hq hp
      go_enter Try.func9, Try.ntmps9
      go_wp2_with (first | (go_at_call 35; refine (CV.out _ (H.out.below (by (repeat' (first | (with_reducible exact Below.refl _ _) | (with_reducible assumption) | (with_reducible refine Below.drewN ?_ _) | (with_reducible refine Below.alloc ?_ ?_ _) | (with_reducible refine Below.drew ?_) | (with_reducible refine Below.setCell ?_ ?_ _) | (with_reducible refine Below.trans ?_ (Below.mono (by assumption) ?_)) | go_size | (with_reducible refine Nat.le_trans ?_ (Below.size (by assumption)))))))).mono ?_; rintro e w1 ⟨rfl, rfl⟩) | (go_at_call 36; refine (C2.out _).mono ?_; rintro e w1 ⟨rfl, rfl⟩) | (go_at_call 37; refine (C3.out _ (H.out.below (by (repeat' (first | (with_reducible exact Below.refl _ _) | (with_reducible assumption) | (with_reducible refine Below.drewN ?_ _) | (with_reducible refine Below.alloc ?_ ?_ _) | (with_reducible refine Below.drew ?_) | (with_reducible refine Below.setCell ?_ ?_ _) | (with_reducible refine Below.trans ?_ (Below.mono (by assumption) ?_)) | go_size | (with_reducible refine Nat.le_trans ?_ (Below.size (by assumption)))))))).mono ?_; rintro e w2 ⟨rfl, hb2⟩; have kb := (Blk.made w #[.int .i64 0, .int .i64 0] 27).below hb2; have k0 := kb.cell (j := 0) rfl; have k1 := kb.cell (j := 1) rfl; have f0 := kb.frozen 0; have f1 := kb.frozen 1))
      have y1 := (kb.set 0 (.int .i64 (up q))).cell (j := 0) rfl
      have y2 := ((kb.set 0 (.int .i64 (up q))).set 1 (.int .i64 (dn q))).cell (j := 1) rfl
      refine bodyPost_ret (v := .tuple #[.agg #[.int .i64 (up q), .int .i64 (dn q)], .bool true]) ?_ rfl ⟨rfl, ?_⟩
      · simp [results, Try.results9, go_sem, y1, y2]
      · exact ((below_alloc.trans (hb2.mono (by simp))).setCell (Nat.le_refl _) _).setCell (Nat.le_refl _) _

end Go.Proofs.Ytfbccnameppikaa
