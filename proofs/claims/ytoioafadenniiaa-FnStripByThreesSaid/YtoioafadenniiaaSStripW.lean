/- The reference's strip by threes is the greatest. -/
import Derived.Test.YtoioafadenniiaaThree
namespace Go.Proofs.Ytoioafadenniiaa
open Go.RowKit

/-- The greatest so far: q holds, and no less than 0. -/
structure Sf (xs ys : List Int) (q : Rat) : Prop where
  r : StR xs ys q
  z : 0 ≤ q
/-- One more value. -/
theorem Sf.step {xs ys : List Int} {q v : Rat} (h : Sf xs ys q) (hv : StR xs ys v) : Sf xs ys (if q < v then v else q) ∧ q ≤ (if q < v then v else q) ∧ v ≤ (if q < v then v else q) := by
  have hz := h.z
  split
  · exact ⟨⟨hv, by grind⟩, by grind, Rat.le_refl⟩
  · exact ⟨h, Rat.le_refl, by grind⟩

theorem sm_of_strip {xs ys : List Int} (hp : Pl xs ys 7) {p q : Rat} (h1 : StR xs ys p) (h2 : StR xs ys q) : (up p).natAbs * dn q + (up q).natAbs * dn p ≤ 4611686018427387904 := by
  have := (sm_mul (h1.sm hp) (h2.sm hp)).2
  omega
theorem sless_strip {xs ys : List Int} (hp : Pl xs ys 7) {p q : Rat} (h1 : StR xs ys p) (h2 : StR xs ys q) (v : Bool) (hv : decide (p < q) = v) (w : World) :
    Calls Try.prog 48 #[.agg #[.int .i64 (up p), .int .i64 (dn p)], .agg #[.int .i64 (up q), .int .i64 (dn q)]] w fun e w' =>
      e = .returned (.bool v) ∧ Below w.heap.size w w' := hv ▸ sless_any p q w (sm_of_strip hp h1 h2)
/-- Behind the first i rows: all pairs a, b with a < i. -/
def CovI (xs ys : List Int) (i : Nat) (q : Rat) : Prop := ∀ a b, a < i → b < xs.length → CovP xs ys a b q
def CovJ (xs ys : List Int) (i j : Nat) (q : Rat) : Prop := ∀ b, b < j → CovP xs ys i b q
def CovK (xs ys : List Int) (i j k : Nat) (q : Rat) : Prop := ∀ c, c < k → gi xs i < gi xs j → gi xs i ≤ gi xs c → gi xs c ≤ gi xs j → dvH xs ys i j c ≤ q
theorem CovI.mono {xs ys : List Int} {i : Nat} {q r : Rat} (h : CovI xs ys i q) (hqr : q ≤ r) : CovI xs ys i r := fun a b ha hb => (h a b ha hb).mono hqr
theorem CovJ.mono {xs ys : List Int} {i j : Nat} {q r : Rat} (h : CovJ xs ys i j q) (hqr : q ≤ r) : CovJ xs ys i j r := fun b hb => (h b hb).mono hqr
theorem CovK.mono {xs ys : List Int} {i j k : Nat} {q r : Rat} (h : CovK xs ys i j k q) (hqr : q ≤ r) : CovK xs ys i j k r := fun c hc h1 h2 h3 => Rat.le_trans (h c hc h1 h2 h3) hqr
theorem CovI.next {xs ys : List Int} {i : Nat} {q : Rat} (h : CovI xs ys i q) (hj : CovJ xs ys i xs.length q) : CovI xs ys (i + 1) q := fun a b ha hb => by
  by_cases e : a = i
  · subst e; exact hj b hb
  · exact h a b (by omega) hb
theorem CovJ.next {xs ys : List Int} {i j : Nat} {q : Rat} (h : CovJ xs ys i j q) (h1 : gi xs i = gi xs j → smH ys i j ≤ q) (hk : CovK xs ys i j xs.length q) : CovJ xs ys i (j + 1) q := fun b hb => by
  by_cases e : b = j
  · subst e; exact ⟨h1, hk⟩
  · exact h b (by omega)
theorem CovK.next {xs ys : List Int} {i j k : Nat} {q : Rat} (h : CovK xs ys i j k q) (h1 : gi xs i < gi xs j → gi xs i ≤ gi xs k → gi xs k ≤ gi xs j → dvH xs ys i j k ≤ q) : CovK xs ys i j (k + 1) q := fun c hc => by
  by_cases e : c = k
  · subst e; exact h1
  · exact h c (by omega)

set_option maxHeartbeats 4000000 in
theorem sstrip_no (b o c b' o' c' : Nat) (xs ys : List Int) (w : World) (h : RowI w b o xs) (h' : RowI w b' o' ys) (hm : xs.length ≤ 1099511627776) (hm' : ys.length ≤ 1099511627776) (hc : clB xs ys = false) :
    Calls Try.prog 18 #[.slice (some ⟨b, o, none⟩) xs.length c, .slice (some ⟨b', o', none⟩) ys.length c'] w
      fun e w' => e = .returned (.tuple #[.agg #[.int .i64 0, .int .i64 0], .bool false]) ∧ Below w.heap.size w w' := by
  have CV := Lib.hid (fun w h h' => hc ▸ svalidCloud_any b o c b' o' c' xs ys w h h' hm hm')
  have H := Lib.hid h
  have H' := Lib.hid h'
  clear h h' hc
  go_enter Try.func18, Try.ntmps18
  go_upto_region 1 with fail
  refine wp_abstract (fun W => Blk W w.heap.size 31 [.int .i64 0, .int .i64 0] ∧ Below w.heap.size w W) ⟨Blk.made' _ rfl rfl, by (repeat' (first | (with_reducible exact Below.refl _ _) | (with_reducible assumption) | (with_reducible refine Below.drewN ?_ _) | (with_reducible refine Below.alloc ?_ ?_ _) | (with_reducible refine Below.drew ?_) | (with_reducible refine Below.setCell ?_ ?_ _) | (with_reducible refine Below.trans ?_ (Below.mono (by assumption) ?_)) | go_size | (with_reducible refine Nat.le_trans ?_ (Below.size (by assumption)))))⟩ ?_
  rintro W0 ⟨hk4, hb⟩
  have K4 := Lib.hid hk4
  have hz := hb.size
  clear hk4
  go_wp2_with (go_at_call 46; refine (CV.out _ (H.out.below hb) (H'.out.below hb)).mono ?_; rintro e w1 ⟨rfl, hb1⟩; have k4 := K4.out.below hb1; have c40 := k4.cell (j := 0) rfl; have c41 := k4.cell (j := 1) rfl; have f40 := k4.frozen 0; have f41 := k4.frozen 1)
  refine bodyPost_ret (v := .tuple #[.agg #[.int .i64 0, .int .i64 0], .bool false]) ?_ rfl ⟨rfl, ?_⟩
  · simp [results, Try.results18, go_sem, c40, c41]
  · have b1 := hb.trans (hb1.mono hz)
    exact (b1.setCell (Nat.le_refl _) _).setCell (Nat.le_refl _) _

set_option maxHeartbeats 8000000 in
set_option maxRecDepth 100000 in
theorem sstrip_yes (b o c b' o' c' : Nat) (xs ys : List Int) (w : World) (h : RowI w b o xs) (h' : RowI w b' o' ys) (hc : Cl xs ys) (hcb : clB xs ys = true) :
    Calls Try.prog 18 #[.slice (some ⟨b, o, none⟩) xs.length c, .slice (some ⟨b', o', none⟩) ys.length c'] w
      fun e w' => ∃ m, Top (StR xs ys) m ∧ e = .returned (.tuple #[.agg #[.int .i64 (up m), .int .i64 (dn m)], .bool true]) ∧ Below w.heap.size w w' := by
  have hl : ys.length = xs.length := hc.pl.ne
  have n7 := hc.pl.nm
  have HP := Lib.hid hc.pl
  have CV := Lib.hid (fun w h h' => hcb ▸ svalidCloud_any b o c b' o' c' xs ys w h h' (by omega) (by omega))
  have H := Lib.hid h
  have H' := Lib.hid h'
  obtain ⟨n, hn⟩ : ∃ n, xs.length = n := ⟨_, rfl⟩
  have hn' : ys.length = n := by omega
  have HN := Lib.hid hn
  obtain ⟨q0, hq0⟩ : ∃ q, qd 0 1 = q := ⟨_, rfl⟩
  have E0 := Lib.hid (show q0 = 0 by rw [← hq0, qd_i]; rfl)
  have F0 := Lib.hid (fun w => sfrac_as 0 1 q0 hq0 w (by omega) (by omega) (by omega) (by omega) (by omega))
  have CX := Lib.hid (fun k (hk : k < n) w (h : RowI w b o xs) => h.cell k (by omega))
  have CY := Lib.hid (fun k (hk : k < n) w (h : RowI w b' o' ys) => h.cell k (by omega))
  have BX := Lib.hid (fun k (hk : k < n) => hc.pl.x k (by omega))
  have BY := Lib.hid (fun k (hk : k < n) => hc.pl.y k (by omega))
  rw [hn] at CV n7 ⊢
  rw [hn'] at CV ⊢
  clear h h' hc hcb hl hn hn' hq0
  go_enter Try.func18, Try.ntmps18
  go_upto_region 1 with fail
  refine wp_abstract (fun W => Blk W w.heap.size 31 [.int .i64 0, .int .i64 0] ∧ Below w.heap.size w W) ⟨Blk.made' _ rfl rfl, by (repeat' (first | (with_reducible exact Below.refl _ _) | (with_reducible assumption) | (with_reducible refine Below.drewN ?_ _) | (with_reducible refine Below.alloc ?_ ?_ _) | (with_reducible refine Below.drew ?_) | (with_reducible refine Below.setCell ?_ ?_ _) | (with_reducible refine Below.trans ?_ (Below.mono (by assumption) ?_)) | go_size | (with_reducible refine Nat.le_trans ?_ (Below.size (by assumption)))))⟩ ?_
  rintro W0 ⟨hk4, hb⟩
  have K4 := Lib.hid hk4
  have B0 := Lib.hid hb
  have hz := hb.size
  have l4 := hk4.lt
  clear hk4 hb
  go_upto_region 4 with (first
    | (go_at_call 46; refine (CV.out _ (H.out.below B0.out) (H'.out.below B0.out)).mono ?_; rintro e w1 ⟨rfl, hb1⟩)
    | (go_at_call 47; refine (F0.out _).mono ?_; rintro e w2 ⟨rfl, hb2⟩))
  obtain ⟨g6, hg6⟩ : ∃ g, w2.heap.size = g := ⟨_, rfl⟩
  rw [hg6]
  have z1 := hb1.size
  have z2 := hb2.size
  refine wp_abstract (fun W => Blk W g6 31 [.int .i64 (up q0), .int .i64 (dn q0)] ∧ W0.heap.size ≤ g6 ∧ Below W0.heap.size W0 W) ⟨Blk.made' _ hg6.symm rfl, by omega, by (repeat' (first | (with_reducible exact Below.refl _ _) | (with_reducible assumption) | (with_reducible refine Below.drewN ?_ _) | (with_reducible refine Below.alloc ?_ ?_ _) | (with_reducible refine Below.drew ?_) | (with_reducible refine Below.setCell ?_ ?_ _) | (with_reducible refine Below.trans ?_ (Below.mono (by assumption) ?_)) | go_size | (with_reducible refine Nat.le_trans ?_ (Below.size (by assumption)))))⟩ ?_
  rintro W1 ⟨k6, z6, b1⟩
  have K6 := Lib.hid k6
  have B1 := Lib.hid b1
  have lg6 : w.heap.size < g6 := by omega
  have S0 := Lib.hid (show Sf xs ys q0 by rw [E0.out]; exact ⟨.inl rfl, Rat.le_refl⟩)
  clear k6 b1 hb1 hb2 hg6 z1 z2
  go_wp2_with fail
  go_loopw [7] (fun v7 wr => ∃ (i : Nat) (q : Rat), i ≤ n ∧ v7 = .int .i64 i ∧ Sf xs ys q ∧ CovI xs ys i q ∧ Blk wr g6 31 [.int .i64 (up q), .int .i64 (dn q)] ∧ Below W0.heap.size W0 wr) (fun v7 _ => n - (intOf v7).toNat)
  case atStart => exact ⟨0, q0, Nat.zero_le _, rfl, S0.out, fun a b ha => absurd ha (Nat.not_lt_zero _), K6.out, B1.out⟩
  case round =>
    clear K6 B1 S0
    obtain ⟨i, q, hi, rfl, hs, hcov, hk6, hb⟩ := hrel
    have S := Lib.hid hs
    have CI := Lib.hid hcov
    have K6 := Lib.hid hk6
    have B1 := Lib.hid hb
    have zr := hb.size
    have l6 := hk6.lt
    clear hs hcov hk6 hb
    by_cases hlt : i < n
    · go_wp2_with fail
      go_loopw [8] (fun v8 wr => ∃ (j : Nat) (q : Rat), j ≤ n ∧ v8 = .int .i64 j ∧ Sf xs ys q ∧ CovI xs ys i q ∧ CovJ xs ys i j q ∧ Blk wr g6 31 [.int .i64 (up q), .int .i64 (dn q)] ∧ Below W0.heap.size W0 wr) (fun v8 _ => n - (intOf v8).toNat)
      case atStart => exact ⟨0, q, Nat.zero_le _, rfl, S.out, CI.out, fun b hb => absurd hb (Nat.not_lt_zero _), K6.out, B1.out⟩
      case round =>
        clear K6 B1 S CI l6 zr
        obtain ⟨j, q, hj, rfl, hs, hcov, hcj, hk6, hb⟩ := hrel
        have S := Lib.hid hs
        have CI := Lib.hid hcov
        have CJ := Lib.hid hcj
        have K6 := Lib.hid hk6
        have B1 := Lib.hid hb
        have zr := hb.size
        have l6 := hk6.lt
        clear hs hcov hcj hk6 hb
        by_cases hltj : j < n
        · obtain ⟨wo, rfl⟩ : ∃ wo : World, wo = wr := ⟨_, rfl⟩
          have R1 := Lib.hid (H.out.below (B0.out.trans (B1.out.mono hz)))
          have R2 := Lib.hid (H'.out.below (B0.out.trans (B1.out.mono hz)))
          have c1 := CX.out i hlt _ R1.out
          have c2 := CX.out j hltj _ R1.out
          have c4 := CY.out i hlt _ R2.out
          have c5 := CY.out j hltj _ R2.out
          have by1 := BY.out i hlt
          have by2 := BY.out j hltj
          obtain ⟨x1, hx1⟩ : ∃ x, gi xs i = x := ⟨_, rfl⟩
          obtain ⟨x2, hx2⟩ : ∃ x, gi xs j = x := ⟨_, rfl⟩
          rw [hx1] at c1
          rw [hx2] at c2
          have HX1 := Lib.hid hx1
          have HX2 := Lib.hid hx2
          clear hx1 hx2
          go_wp2_with fail
          go_quiet (fail)
          go_upto_if 38 with fail
          go_cut [] (fun wx => ∃ q' : Rat, Sf xs ys q' ∧ q ≤ q' ∧ (gi xs i = gi xs j → smH ys i j ≤ q') ∧ Blk wx g6 31 [.int .i64 (up q'), .int .i64 (dn q')] ∧ Below W0.heap.size W0 wx)
          case first =>
            by_cases hxx : x1 = x2
            · have t1 : (x1 == x2) = true := by simp [hxx]
              have hv : StR xs ys (smH ys i j) := .inr (.inl ⟨i, j, by rw [HN.out]; exact hlt, by rw [HN.out]; exact hltj, by rw [HX1.out, HX2.out]; exact hxx, rfl⟩)
              have hfr := smH_frac ys i j
              have hst := S.out.step hv
              obtain ⟨v, hvv⟩ : ∃ v, smH ys i j = v := ⟨_, rfl⟩
              rw [hvv] at hv hfr hst
              obtain ⟨y1, hy1⟩ : ∃ x, gi ys i = x := ⟨_, rfl⟩
              obtain ⟨y2, hy2⟩ : ∃ x, gi ys j = x := ⟨_, rfl⟩
              rw [hy1] at c4 by1 hfr
              rw [hy2] at c5 by2 hfr
              obtain ⟨mv, hmv⟩ : ∃ m, (if y1 - y2 < y2 - y1 then y2 - y1 else y1 - y2) = m := ⟨_, rfl⟩
              rw [hmv] at hfr
              have bmv : 0 ≤ mv ∧ mv ≤ 24 := by rw [← hmv]; split <;> omega
              have hx : max (y1 - y2) (y2 - y1) = mv := by rw [← hmv]; split <;> omega
              have FV := Lib.hid (fun w => sfrac_as mv 2 v hfr w (by omega) (by omega) (by omega) (by omega) (by omega))
              obtain ⟨lt, hlt2⟩ : ∃ l, decide (q < v) = l := ⟨_, rfl⟩
              have LW := Lib.hid (fun w => sless_strip HP.out S.out.r hv lt hlt2 w)
              have HST := Lib.hid hst
              have HVV := Lib.hid hvv
              have HLT := Lib.hid hlt2
              have q1 : IntKind.i64.wrap (y1 - y2) = y1 - y2 := IntWalk.i64_in _ (by omega)
              have q2 : IntKind.i64.wrap (y2 - y1) = y2 - y1 := IntWalk.i64_in _ (by omega)
              clear hv hfr hst hvv hy1 hy2 hlt2
              go_upto_region 11 with fail
              (refine region_box_tail 20 (by kernel_rfl) (by kernel_rfl) rfl allocF ?_; intro WB gB hWB hgB; obtain ⟨ι, W, hCW, hWn, hWm, hWb⟩ := cl_worlds WB; rw [hCW])
              have b3 := (Below.drewN (Below.refl wo.heap.size wo) nq).trans (hWB.mono (by simp))
              have z4 : ∀ i', (W i').cell? ⟨b', o' + i, none⟩ = some (.int .i64 y1) := fun i => keepC (hWb i) (keepC b3 c4)
              have z5 : ∀ i', (W i').cell? ⟨b', o' + j, none⟩ = some (.int .i64 y2) := fun i => keepC (hWb i) (keepC b3 c5)
              (simp only [Act.put, List.setIfInBounds_toArray, List.set_cons_zero, List.set_cons_succ, List.take_succ_cons, List.take_zero]; (repeat (go_big_quiet_step ((go_at_call 47; exact (FV.out _).mono fun e w'' h => ⟨h.1, hWm _ _ h.2⟩)))); refine wpQuiet_nil ?_; rintro _ ⟨iw, rfl⟩ hkB)
              have b0 := hkB.cell (j := 0) rfl
              have b1 := hkB.cell (j := 1) rfl
              have b2 := hkB.frozen 0
              have b4 := hkB.frozen 1
              have lB := hkB.lt
              go_upto_region 12 with fail
              have hgB' : wo.heap.size ≤ gB := by simpa using hgB
              have hbW := b3.trans ((hWb iw).mono b3.size)
              refine wp_abstract (fun W => Blk W gB 31 [.int .i64 (up v), .int .i64 (dn v)] ∧ Below wo.heap.size wo W)
                ⟨hkB.two (x := .int .i64 0) (y := .int .i64 0) _ _, (hbW.setCell (by show wo.heap.size ≤ gB; exact hgB') _).setCell (by show wo.heap.size ≤ gB; exact hgB') _⟩ ?_
              rintro w9 ⟨k9, b9⟩
              have z9 := b9.size
              have d1 := k9.cell (j := 0) rfl
              have d2 := k9.cell (j := 1) rfl
              have k6 := K6.out.below b9
              have d3 := k6.cell (j := 0) rfl
              have d4 := k6.cell (j := 1) rfl
              have K9 := Lib.hid k9
              have K6' := Lib.hid k6
              have B9 := Lib.hid (B1.out.trans (b9.mono zr))
              clear hkB b0 b1 b2 b4 lB hbW b3 hWB z4 z5 hWb hWm hCW hWn k9 k6 b9 c1 c2 c4 c5 hgB
              clear iw W
              cases lt with
              | true =>
                have hlt' : q < v := of_decide_eq_true HLT.out
                go_wp2_with (go_at_call 48; refine (LW.out _).mono ?_; rintro e w10 ⟨rfl, b10⟩; have k6 := K6'.out.below b10; have k9 := K9.out.below b10; have d5 := k6.cell (j := 0) rfl; have d6 := k6.cell (j := 1) rfl; have f5 := k6.frozen 0; have f6 := k6.frozen 1; have d7 := k9.cell (j := 0) rfl; have d8 := k9.cell (j := 1) rfl)
                go_meet
                have hst := HST.out
                rw [if_pos hlt'] at hst
                exact ⟨v, hst.1, hst.2.1, fun _ => by rw [HVV.out]; exact Rat.le_refl, k6.two (x := .int .i64 (up q)) (y := .int .i64 (dn q)) _ _, ((B9.out.trans (b10.mono B9.out.size)).setCell (by show W0.heap.size ≤ g6; exact z6) _).setCell (by show W0.heap.size ≤ g6; exact z6) _⟩
              | false =>
                have hlt' : ¬ q < v := of_decide_eq_false HLT.out
                go_wp2_with (go_at_call 48; refine (LW.out _).mono ?_; rintro e w10 ⟨rfl, b10⟩; have k6 := K6'.out.below b10)
                go_meet
                have hst := HST.out
                rw [if_neg hlt'] at hst
                exact ⟨q, S.out, Rat.le_refl, fun _ => by rw [HVV.out]; exact hst.2.2, k6, B9.out.trans (b10.mono B9.out.size)⟩
            · have t1 : (x1 == x2) = false := by simpa using hxx
              go_wp2_with fail
              go_meet
              exact ⟨q, S.out, Rat.le_refl, fun e => absurd (by rw [← HX1.out, ← HX2.out]; exact e) hxx, K6.out.below (Below.drewN (Below.refl _ _) _), Below.drewN B1.out _⟩
          case rest =>
            obtain ⟨q', hs, hqq, hsm, hk6, hb⟩ := hcut
            have CI := Lib.hid (CI.out.mono hqq)
            have CJ := Lib.hid (CJ.out.mono hqq)
            have S := Lib.hid hs
            have HSM := Lib.hid hsm
            have K6 := Lib.hid hk6
            have B1 := Lib.hid hb
            have zr := hb.size
            clear hs hsm hk6 hb c1 c2 c4 c5 R1 R2 l6 hqq
            go_wp2_with fail
            go_loopw [10] (fun v10 wr => ∃ (k : Nat) (q : Rat), k ≤ n ∧ v10 = .int .i64 k ∧ Sf xs ys q ∧ q' ≤ q ∧ CovK xs ys i j k q ∧ Blk wr g6 31 [.int .i64 (up q), .int .i64 (dn q)] ∧ Below W0.heap.size W0 wr) (fun v10 _ => n - (intOf v10).toNat)
            case atStart => exact ⟨0, q', Nat.zero_le _, rfl, S.out, Rat.le_refl, fun c hc => absurd hc (Nat.not_lt_zero _), K6.out, B1.out⟩
            case round =>
              clear K6 B1 S zr
              obtain ⟨k, q2, hk, rfl, hs, hqq, hck, hk6, hb⟩ := hrel
              have S := Lib.hid hs
              have CK := Lib.hid hck
              have HQ := Lib.hid hqq
              have K6 := Lib.hid hk6
              have B1 := Lib.hid hb
              have zr := hb.size
              have l6 := hk6.lt
              clear hs hck hk6 hb hqq
              by_cases hltk : k < n
              · obtain ⟨wo, rfl⟩ : ∃ wo : World, wo = wr := ⟨_, rfl⟩
                have R1 := Lib.hid (H.out.below (B0.out.trans (B1.out.mono hz)))
                have R2 := Lib.hid (H'.out.below (B0.out.trans (B1.out.mono hz)))
                have c1 := CX.out i hlt _ R1.out
                have c2 := CX.out j hltj _ R1.out
                have c3 := CX.out k hltk _ R1.out
                rw [HX1.out] at c1
                rw [HX2.out] at c2
                obtain ⟨x3, hx3⟩ : ∃ x, gi xs k = x := ⟨_, rfl⟩
                rw [hx3] at c3
                have HX3 := Lib.hid hx3
                clear hx3
                by_cases t1 : x1 < x2
                · have d1 : decide (x1 < x2) = true := by simpa using t1
                  by_cases t2 : x1 ≤ x3
                  · have d2 : decide (x1 ≤ x3) = true := by simpa using t2
                    by_cases t3 : x3 ≤ x2
                    · have d3 : decide (x3 ≤ x2) = true := by simpa using t3
                      have hne : gi xs i ≠ gi xs j := by rw [HX1.out, HX2.out]; omega
                      have hv : StR xs ys (dvH xs ys i j k) := .inr (.inr ⟨i, j, k, by rw [HN.out]; exact hlt, by rw [HN.out]; exact hltj, by rw [HN.out]; exact hltk, hne, by unfold Btw; rw [HX1.out, HX2.out, HX3.out]; omega, rfl⟩)
                      have hst := S.out.step hv
                      obtain ⟨v, hvv⟩ : ∃ v, dvH xs ys i j k = v := ⟨_, rfl⟩
                      rw [hvv] at hv hst
                      have TH := Lib.hid (fun w h h' => three_any b o c b' o' c' n i k j xs ys v w h h' HP.out HN.out hlt hltk hltj hne hvv)
                      obtain ⟨lt, hlt2⟩ : ∃ l, decide (q2 < v) = l := ⟨_, rfl⟩
                      have LW := Lib.hid (fun w => sless_strip HP.out S.out.r hv lt hlt2 w)
                      have HST := Lib.hid hst
                      have HVV := Lib.hid hvv
                      have HLT := Lib.hid hlt2
                      clear hv hst hvv hlt2 hne
                      go_wp2_with fail
                      go_quiet (fail)
                      go_upto_region 19 with (go_at_call 49; refine (TH.out _ (R1.out.below (Below.drewN (Below.refl _ _) _)) (R2.out.below (Below.drewN (Below.refl _ _) _))).mono ?_; rintro e w5 ⟨rfl, hb5⟩)
                      obtain ⟨g11, hg11⟩ : ∃ g, w5.heap.size = g := ⟨_, rfl⟩
                      rw [hg11]
                      have z5 := hb5.size
                      have hg11' : wo.heap.size ≤ g11 := by rw [← hg11]; exact Nat.le_trans (by simp) z5
                      refine wp_abstract (fun W => Blk W g11 31 [.int .i64 (up v), .int .i64 (dn v)] ∧ Below wo.heap.size wo W) ⟨Blk.made' _ hg11.symm rfl, by (repeat' (first | (with_reducible exact Below.refl _ _) | (with_reducible assumption) | (with_reducible refine Below.drewN ?_ _) | (with_reducible refine Below.alloc ?_ ?_ _) | (with_reducible refine Below.drew ?_) | (with_reducible refine Below.setCell ?_ ?_ _) | (with_reducible refine Below.trans ?_ (Below.mono (by assumption) ?_)) | go_size | (with_reducible refine Nat.le_trans ?_ (Below.size (by assumption)))))⟩ ?_
                      rintro w9 ⟨k9, b9⟩
                      have d4 := k9.cell (j := 0) rfl
                      have d5 := k9.cell (j := 1) rfl
                      have k6 := K6.out.below b9
                      have d6 := k6.cell (j := 0) rfl
                      have d7 := k6.cell (j := 1) rfl
                      have K9 := Lib.hid k9
                      have K6' := Lib.hid k6
                      have B9 := Lib.hid (B1.out.trans (b9.mono zr))
                      clear k9 k6 b9 hb5 hg11 z5 c1 c2 c3
                      cases lt with
                      | true =>
                        have hlt' : q2 < v := of_decide_eq_true HLT.out
                        go_wp2_with (go_at_call 48; refine (LW.out _).mono ?_; rintro e w10 ⟨rfl, b10⟩; have k6 := K6'.out.below b10; have k9 := K9.out.below b10; have d5 := k6.cell (j := 0) rfl; have d6 := k6.cell (j := 1) rfl; have f5 := k6.frozen 0; have f6 := k6.frozen 1; have d7 := k9.cell (j := 0) rfl; have d8 := k9.cell (j := 1) rfl)
                        have hst := HST.out
                        rw [if_pos hlt'] at hst
                        go_roundw
                        case rel => exact ⟨k + 1, v, by omega, by go_num, hst.1, Rat.le_trans HQ.out hst.2.1, (CK.out.mono hst.2.1).next fun _ _ _ => by rw [HVV.out]; exact Rat.le_refl, k6.two (x := .int .i64 (up q2)) (y := .int .i64 (dn q2)) _ _, ((B9.out.trans (b10.mono B9.out.size)).setCell (by show W0.heap.size ≤ g6; exact z6) _).setCell (by show W0.heap.size ≤ g6; exact z6) _⟩
                        case measure => simp [intOf]; omega
                      | false =>
                        have hlt' : ¬ q2 < v := of_decide_eq_false HLT.out
                        go_wp2_with (go_at_call 48; refine (LW.out _).mono ?_; rintro e w10 ⟨rfl, b10⟩; have k6 := K6'.out.below b10)
                        have hst := HST.out
                        rw [if_neg hlt'] at hst
                        go_roundw
                        case rel => exact ⟨k + 1, q2, by omega, by go_num, S.out, HQ.out, CK.out.next fun _ _ _ => by rw [HVV.out]; exact hst.2.2, k6, B9.out.trans (b10.mono B9.out.size)⟩
                        case measure => simp [intOf]; omega
                    · have d3 : decide (x3 ≤ x2) = false := by simpa using t3
                      have HF := Lib.hid (show ¬ gi xs k ≤ gi xs j by rw [HX2.out, HX3.out]; exact t3)
                      go_wp2_with fail
                      go_quiet (fail)
                      go_wp2_with fail
                      go_roundw
                      case rel => exact ⟨k + 1, q2, by omega, by go_num, S.out, HQ.out, CK.out.next fun _ _ h => absurd h (by have := HF.out; omega), K6.out.below (Below.drewN (Below.refl _ _) _), Below.drewN B1.out _⟩
                      case measure => simp [intOf]; omega
                  · have d2 : decide (x1 ≤ x3) = false := by simpa using t2
                    have HF := Lib.hid (show ¬ gi xs i ≤ gi xs k by rw [HX1.out, HX3.out]; exact t2)
                    go_wp2_with fail
                    go_quiet (fail)
                    go_wp2_with fail
                    go_roundw
                    case rel => exact ⟨k + 1, q2, by omega, by go_num, S.out, HQ.out, CK.out.next fun _ h _ => absurd h (by have := HF.out; omega), K6.out.below (Below.drewN (Below.refl _ _) _), Below.drewN B1.out _⟩
                    case measure => simp [intOf]; omega
                · have d1 : decide (x1 < x2) = false := by simpa using t1
                  have HF := Lib.hid (show ¬ gi xs i < gi xs j by rw [HX1.out, HX2.out]; exact t1)
                  go_wp2_with fail
                  go_quiet (fail)
                  go_wp2_with fail
                  go_roundw
                  case rel => exact ⟨k + 1, q2, by omega, by go_num, S.out, HQ.out, CK.out.next fun h _ _ => absurd h (by have := HF.out; omega), K6.out.below (Below.drewN (Below.refl _ _) _), Below.drewN B1.out _⟩
                  case measure => simp [intOf]; omega
              · obtain rfl : k = n := by omega
                go_wp2_with fail
                go_roundw
                case rel => exact ⟨j + 1, q2, by omega, by go_num, S.out, CI.out.mono HQ.out, (CJ.out.mono HQ.out).next (fun e => Rat.le_trans (HSM.out e) HQ.out) (by rw [HN.out]; exact CK.out), K6.out, B1.out⟩
                case measure => simp [intOf]; omega
        · obtain rfl : j = n := by omega
          go_wp2_with fail
          go_roundw
          case rel => exact ⟨i + 1, q, by omega, by go_num, S.out, CI.out.next (by rw [HN.out]; exact CJ.out), K6.out, B1.out⟩
          case measure => simp [intOf]; omega
    · obtain rfl : i = n := by omega
      have ht := top_of_cov S.out.r S.out.z (fun a b ha hb => CI.out a b (by rw [← HN.out]; exact ha) hb)
      have k4 := K4.out.below B1.out
      have c40 := k4.cell (j := 0) rfl
      have c41 := k4.cell (j := 1) rfl
      have f40 := k4.frozen 0
      have f41 := k4.frozen 1
      have d1 := K6.out.cell (j := 0) rfl
      have d2 := K6.out.cell (j := 1) rfl
      have HT := Lib.hid ht
      have b2 := B0.out.trans (B1.out.mono hz)
      clear ht k4
      go_wp2_with fail
      refine bodyPost_ret (v := .tuple #[.agg #[.int .i64 (up q), .int .i64 (dn q)], .bool true]) ?_ rfl ⟨q, HT.out, rfl, ?_⟩
      · simp [results, Try.results18, go_sem, c40, c41]
      · exact (b2.setCell (Nat.le_refl _) _).setCell (Nat.le_refl _) _

end Go.Proofs.Ytoioafadenniiaa
