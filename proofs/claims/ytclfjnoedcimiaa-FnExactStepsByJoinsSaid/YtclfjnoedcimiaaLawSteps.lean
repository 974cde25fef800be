/- The law laws.FnExactStepsByJoins returns true for all arguments, and changes no memory that was there. -/
import Derived.Test.YtclfjnoedcimiaaStJI
import Derived.Test.YtclfjnoedcimiaaStJS
namespace Go.Proofs.Ytclfjnoedcimiaa
open Go.RowKit

/-- The answer. -/
def stV (xss : List (List Int)) : List (List Int) := if gpB xss then mkM (sK xss xss.length (xss.length - 1)) xss.length else []
theorem stV_len (xss : List (List Int)) : (stV xss).length ≤ 6 ∧ ∀ k, k < (stV xss).length → (gl (stV xss) k).length ≤ 6 := by
  unfold stV
  split
  · rename_i h
    have hg := gp_of h
    rw [mkM_length]
    exact ⟨hg.n6, fun k hk => by rw [gl_mkM hk, tabI_length]; exact hg.n6⟩
  · exact ⟨Nat.zero_le _, fun k hk => absurd hk (Nat.not_lt_zero _)⟩
/-- Rows that a function gave back. -/
def RV (w : World) (lo hi : Nat) (v : Value) (ys : List (List Int)) : Prop := (v = .slice none 0 0 ∧ ys = []) ∨ ∃ (g c : Nat) (H : Nat → Nat), v = .slice (some ⟨g, 0, none⟩) ys.length c ∧ MatD w lo hi g H ys
def RN (w : World) (lo hi : Nat) (v : Value) (ys : List (List Int)) : Prop := (v = .slice none 0 0 ∧ ys = []) ∨ ∃ (g : Nat) (H : Nat → Nat), v = .slice (some ⟨g, 0, none⟩) ys.length ys.length ∧ MatD w lo hi g H ys
def RK (w : World) (v : Value) (ys : List (List Int)) : Prop := (v = .slice none 0 0 ∧ ys = []) ∨ ∃ (g : Nat) (H : Nat → Nat), v = .slice (some ⟨g, 0, none⟩) ys.length ys.length ∧ MatK w g H ys
theorem RV.below {w w' : World} {lo hi : Nat} {v : Value} {ys : List (List Int)} (h : RV w lo hi v ys) (hb : Below w.heap.size w w') : RV w' lo hi v ys := h.imp id fun ⟨g, c, H, h1, h2⟩ => ⟨g, c, H, h1, h2.below hb⟩
theorem RN.below {w w' : World} {lo hi : Nat} {v : Value} {ys : List (List Int)} (h : RN w lo hi v ys) (hb : Below w.heap.size w w') : RN w' lo hi v ys := h.imp id fun ⟨g, H, h1, h2⟩ => ⟨g, H, h1, h2.below hb⟩
theorem RK.below {w w' : World} {v : Value} {ys : List (List Int)} (h : RK w v ys) (hb : Below w.heap.size w w') : RK w' v ys := h.imp id fun ⟨g, H, h1, h2⟩ => ⟨g, H, h1, h2.below hb⟩
theorem RV.chg {w w' : World} {lo hi lo' hi' : Nat} {v : Value} {ys : List (List Int)} (h : RV w lo hi v ys) (hb : Chg lo' hi' w w') (hd : hi ≤ lo' ∨ hi' ≤ lo) : RV w' lo hi v ys := h.imp id fun ⟨g, c, H, h1, h2⟩ => ⟨g, c, H, h1, h2.chg hb hd⟩
theorem RN.chg {w w' : World} {lo hi lo' hi' : Nat} {v : Value} {ys : List (List Int)} (h : RN w lo hi v ys) (hb : Chg lo' hi' w w') (hd : hi ≤ lo' ∨ hi' ≤ lo) : RN w' lo hi v ys := h.imp id fun ⟨g, H, h1, h2⟩ => ⟨g, H, h1, h2.chg hb hd⟩
theorem RN.rv {w : World} {lo hi : Nat} {v : Value} {ys : List (List Int)} (h : RN w lo hi v ys) : RV w lo hi v ys := h.imp id fun ⟨g, H, h1, h2⟩ => ⟨g, _, H, h1, h2⟩

theorem stepsI_any (g : Nat) (H : Nat → Nat) (xss : List (List Int)) (w : World) (h : Mat w g H xss) (hn : xss.length ≤ 1048576) :
    Calls Try.prog 30 #[.slice (some ⟨g, 0, none⟩) xss.length xss.length] w fun e w' => ∃ v, e = .returned v ∧ RN w' w.heap.size w'.heap.size v (stV xss) ∧ Below w.heap.size w w' := by
  cases hv : gpB xss with
  | false =>
    refine (stepsI_bad g _ H _ xss w h hn hv).mono ?_
    rintro e w' ⟨rfl, hb⟩
    exact ⟨_, rfl, .inl ⟨rfl, by unfold stV; rw [hv]; rfl⟩, hb⟩
  | true =>
    refine (stepsI_good g _ H _ xss _ w h rfl hv).mono ?_
    rintro e w' ⟨g', H', rfl, hs, hb⟩
    have e : stV xss = mkM (sK xss xss.length (xss.length - 1)) xss.length := by unfold stV; rw [hv]; rfl
    exact ⟨_, rfl, .inr ⟨g', H', by rw [e, mkM_length], by rw [e]; exact hs⟩, hb⟩
theorem stepsS_any (g : Nat) (H : Nat → Nat) (xss : List (List Int)) (w : World) (h : Mat w g H xss) (hn : xss.length ≤ 1048576) :
    Calls Try.prog 29 #[.slice (some ⟨g, 0, none⟩) xss.length xss.length] w fun e w' => ∃ v, e = .returned v ∧ RV w' w.heap.size w'.heap.size v (stV xss) ∧ Below w.heap.size w w' := by
  cases hv : gpB xss with
  | false =>
    refine (stepsS_bad g _ H _ xss w h hn hv).mono ?_
    rintro e w' ⟨rfl, hb⟩
    exact ⟨_, rfl, .inl ⟨rfl, by unfold stV; rw [hv]; rfl⟩, hb⟩
  | true =>
    refine (stepsS_good g _ H _ xss _ w h rfl hv).mono ?_
    rintro e w' ⟨g', c', H', rfl, hs, hb⟩
    have e : stV xss = mkM (sK xss xss.length (xss.length - 1)) xss.length := by unfold stV; rw [hv]; rfl
    exact ⟨_, rfl, .inr ⟨g', c', H', by rw [e, mkM_length], by rw [e]; exact hs⟩, hb⟩

theorem eqIntSS_nil (a a' : Option Addr) (c c' : Nat) (w : World) :
    Calls Try.prog 25 #[.slice a 0 c, .slice a' 0 c'] w fun e w' => e = .returned (.bool true) ∧ Below w.heap.size w w' := by
  go_enter Try.func25, Try.ntmps25
  go_wp2_with fail
  go_loopw [5] (fun v5 wr => v5 = .int .i64 0 ∧ wr = w) (fun _ _ => 0)
  case atStart => exact ⟨rfl, rfl⟩
  case round =>
    obtain ⟨rfl, rfl⟩ := hrel
    go_wp2_with fail
    go_ret
    exact ⟨rfl, Below.refl _ _⟩
set_option maxHeartbeats 2000000 in
theorem eqIntSS_anyC (g g' cg cg' : Nat) (H H' : Nat → Nat) (xss : List (List Int)) (w : World) (h : Mat w g H xss) (h' : Mat w g' H' xss) (hn : xss.length ≤ 1048576) (hr : ∀ k, k < xss.length → (gl xss k).length ≤ 1048576) :
    Calls Try.prog 25 #[.slice (some ⟨g, 0, none⟩) xss.length cg, .slice (some ⟨g', 0, none⟩) xss.length cg'] w fun e w' => e = .returned (.bool true) ∧ Below w.heap.size w w' := by
  have HM := Lib.hid h
  have HM' := Lib.hid h'
  have HR := Lib.hid hr
  clear h h' hr
  go_enter Try.func25, Try.ntmps25
  go_wp2_with fail
  go_loopw [5] (fun v5 wr => ∃ k : Nat, v5 = .int .i64 k ∧ k ≤ xss.length ∧ Below w.heap.size w wr) (fun v5 _ => xss.length - (intOf v5).toNat)
  case atStart => exact ⟨0, rfl, by omega, Below.refl _ _⟩
  case round =>
    obtain ⟨k, rfl, hk, hb⟩ := hrel
    have HB := Lib.hid hb
    have hz := hb.size
    by_cases hlt : k < xss.length
    · obtain ⟨y1, r1⟩ := (HM.out.below hb).row hlt
      obtain ⟨y2, r2⟩ := (HM'.out.below hb).row hlt
      have C := Lib.hid (fun (w' : World) (hw : Below wr.heap.size wr w') => eqIntS_row (H k) 0 (gl xss k).length (H' k) 0 (gl xss k).length (gl xss k) w' (r1.below hw) (r2.below hw) (HR.out k hlt))
      obtain ⟨ι, W, hW0, hWm, hWb⟩ := good_worlds wr
      have hWn : Nonempty ι := hW0.elim fun i _ => ⟨i⟩
      have x1 : ∀ i, (W i).cell? ⟨g, k, none⟩ = some (.slice (some ⟨H k, 0, none⟩) (gl xss k).length (gl xss k).length) := fun i => keepC (hWb i) y1
      have x2 : ∀ i, (W i).cell? ⟨g', k, none⟩ = some (.slice (some ⟨H' k, 0, none⟩) (gl xss k).length (gl xss k).length) := fun i => keepC (hWb i) y2
      have CC := Lib.hid (fun i => C.out (W i) (hWb i))
      clear r1 r2 y1 y2 hb C
      go_upto_region 6 with fail
      (refine region_quiet_tail (C := fun w' => ∃ i, w' = W i) 9 (by kernel_rfl) (by kernel_rfl) hW0 ?_; simp only [List.take_succ_cons, List.take_zero, List.drop_succ_cons, List.drop_zero]; (repeat (go_big_quiet_step ((go_at_call 51; exact (CC.out _).mono fun e w'' h => ⟨h.1, hWm _ _ h.2⟩)))); refine wpQuiet_nil ?_; rintro _ ⟨iw, rfl⟩)
      have hbi := hWb iw
      go_wp2_with fail
      go_roundw
      case rel => exact ⟨k + 1, by go_num, by omega, HB.out.trans (hbi.mono hz)⟩
      case measure => simp [intOf]; omega
    · have e : k = xss.length := by omega
      subst e
      go_wp2_with fail
      go_ret
      exact ⟨rfl, hb⟩
theorem eqIntSS_rv (v v' : Value) (lo hi lo' hi' : Nat) (ys : List (List Int)) (w : World) (h : RV w lo hi v ys) (h' : RV w lo' hi' v' ys) (hn : ys.length ≤ 6 ∧ ∀ k, k < ys.length → (gl ys k).length ≤ 6) :
    Calls Try.prog 25 #[v, v'] w fun e w' => e = .returned (.bool true) ∧ Below w.heap.size w w' := by
  by_cases h0 : ys = []
  · have key : ∀ {lo hi : Nat} {v : Value}, RV w lo hi v ys → ∃ a c, v = .slice a 0 c := fun h => by
      rcases h with ⟨h, _⟩ | ⟨g, c, H, h, _⟩
      · exact ⟨_, _, h⟩
      · rw [h0] at h; exact ⟨_, _, h⟩
    obtain ⟨a, c, rfl⟩ := key h
    obtain ⟨a', c', rfl⟩ := key h'
    exact eqIntSS_nil a a' c c' w
  · rcases h with ⟨_, h⟩ | ⟨g, c, H, rfl, hm⟩
    · exact absurd h h0
    · rcases h' with ⟨_, h⟩ | ⟨g', c', H', rfl, hm'⟩
      · exact absurd h h0
      · exact eqIntSS_anyC g g' c c' H H' ys w hm.mat hm'.mat (by omega) (fun k hk => by have := hn.2 k hk; omega)
theorem markIntSS_nil (w : World) :
    Calls Try.prog 26 #[.slice none 0 0, .int .i64 1] w fun e w' => e = .returned (.int .i64 1) ∧ w' = w := by
  go_enter Try.func26, Try.ntmps26
  go_wp2_with fail
  go_rounds 1
  go_ret
  exact ⟨rfl, rfl⟩
theorem markIntSS_rn (lo hi : Nat) (v : Value) (ys : List (List Int)) (w : World) (h : RN w lo hi v ys) (hn : ys.length ≤ 6 ∧ ∀ k, k < ys.length → (gl ys k).length ≤ 6) :
    Calls Try.prog 26 #[v, .int .i64 1] w fun e w' => e = .returned (.int .i64 (1 + (oN ys ys.length : Nat))) ∧ RK w' v ys ∧ Chg lo hi w w' := by
  rcases h with ⟨rfl, rfl⟩ | ⟨g, H, rfl, hm⟩
  · exact (markIntSS_nil w).mono fun e w' ⟨he, hw⟩ => ⟨by rw [he]; rfl, .inl ⟨rfl, rfl⟩, by rw [hw]; exact Chg.refl _ _ _⟩
  · exact (markIntSS_any lo hi g H ys w hm (by omega) (fun k hk => by have := hn.2 k hk; omega)).mono fun e w' ⟨he, hk, hc⟩ => ⟨he, .inr ⟨g, H, rfl, hk⟩, hc⟩
theorem heldIntSS_nil (w : World) :
    Calls Try.prog 31 #[.slice none 0 0, .int .i64 1] w fun e w' => e = .returned (.int .i64 1) ∧ w' = w := by
  go_enter Try.func31, Try.ntmps31
  go_wp2_with fail
  go_rounds 1
  go_ret
  exact ⟨rfl, rfl⟩
theorem heldIntSS_rk (v : Value) (ys : List (List Int)) (w : World) (h : RK w v ys) (hn : ys.length ≤ 6 ∧ ∀ k, k < ys.length → (gl ys k).length ≤ 6) :
    Calls Try.prog 31 #[v, .int .i64 1] w fun e w' => e = .returned (.int .i64 (1 + (oN ys ys.length : Nat))) ∧ w' = w := by
  rcases h with ⟨rfl, rfl⟩ | ⟨g, H, rfl, hm⟩
  · exact (heldIntSS_nil w).mono fun e w' ⟨he, hw⟩ => ⟨by rw [he]; rfl, hw⟩
  · exact heldIntSS_any g H ys w hm (by omega) (fun k hk => by have := hn.2 k hk; omega)

set_option maxHeartbeats 4000000 in
theorem FnExactStepsByJoins_main (v : Value) (xss : List (List Int)) (w : World) (ha : ArgM w v xss) (hn : xss.length ≤ 9223372036854775807) (hr : ∀ k, k < xss.length → (gl xss k).length ≤ 9223372036854775807) :
    Calls Try.prog 7 #[v] w fun e w' => e = .returned (.bool true) ∧ Below w.heap.size w w' := by
  have HA := Lib.hid ha
  have CZ := Lib.hid (szIntSS_any v xss w ha hn hr)
  obtain ⟨F, hF⟩ : ∃ F, stV xss = F := ⟨_, rfl⟩
  have hfl := stV_len xss
  rw [hF] at hfl
  have HL := Lib.hid hfl
  have hos := oN_le (xss := F) (fun k hk => Nat.le_trans (hfl.2 k hk) (by omega)) F.length (Nat.le_refl _)
  obtain ⟨n, hfn⟩ : ∃ n, oN F F.length = n := ⟨_, rfl⟩
  have hf1 := hfl.1
  have hn2 : n ≤ 6291456 := by omega
  have HF := Lib.hid hF
  have HN := Lib.hid hfn
  clear ha hr hn hF hfn hfl hos hf1
  go_enter Try.func7, Try.ntmps7
  go_wp2_with fail
  refine CZ.out.mono ?_
  rintro e w1 ⟨r, rfl, hz, rfl⟩
  by_cases tr : r < 0
  · have t1 : decide (r < 0) = true := by simpa using tr
    clear tr hz
    go_wp2_with fail
    go_ret
    exact ⟨rfl, Below.refl _ _⟩
  · have t1 : decide (r < 0) = false := by simpa using tr
    obtain ⟨hn, hr⟩ := hz (by omega)
    have HR := Lib.hid hr
    have hol := oN_le hr xss.length (Nat.le_refl _)
    have t2 : decide (1 + (oN xss xss.length : Int) < 0) = false := by simp; omega
    clear tr hz hr CZ
    go_wp2_with fail
    refine (toIntSS_any v xss w HA.out hn HR.out).mono ?_
    rintro e w2 ⟨H2, rfl, m2, b2⟩
    have M2 := Lib.hid m2
    have z2 := b2.size
    have B2 := Lib.hid b2
    clear m2 b2
    go_wp2_with fail
    refine (stepsS_any _ H2 xss w2 M2.out hn).mono ?_
    rintro e w3 ⟨v5, rfl, m5, b3⟩
    rw [HF.out] at m5
    have M5 := Lib.hid m5
    have z3 := b3.size
    have B3 := Lib.hid (B2.out.trans (b3.mono z2))
    clear b3 B2 M2 m5
    go_wp2_with fail
    refine (toIntSS_own v xss w3 (HA.out.below B3.out) hn HR.out).mono ?_
    rintro e w4 ⟨H4, rfl, m4, b4⟩
    have z4 := b4.size
    have K4 := Lib.hid m4
    have M5 := Lib.hid (M5.out.below b4)
    have B4 := Lib.hid (B3.out.trans (b4.mono (by omega)))
    clear m4 b4 B3
    go_wp2_with fail
    refine (stepsI_any _ H4 xss w4 K4.out.mat hn).mono ?_
    rintro e w5 ⟨v8, rfl, m8, b5⟩
    rw [HF.out] at m8
    have M8 := Lib.hid m8
    have z5 := b5.size
    have K4 := Lib.hid (K4.out.below b5)
    have M5 := Lib.hid (M5.out.below b5)
    have B5 := Lib.hid (B4.out.trans (b5.mono (by omega)))
    clear b5 B4 m8
    go_wp2_with fail
    refine (eqIntSS_rv _ _ _ _ _ _ F _ M8.out.rv M5.out HL.out).mono ?_
    rintro e w6 ⟨rfl, b6⟩
    have z6 := b6.size
    have K4 := Lib.hid (K4.out.below b6)
    have M5 := Lib.hid (M5.out.below b6)
    have M8 := Lib.hid (M8.out.below b6)
    have B6 := Lib.hid (B5.out.trans (b6.mono (by omega)))
    clear b6 B5
    go_wp2_with fail
    refine (toIntSS_any v xss w6 (HA.out.below B6.out) hn HR.out).mono ?_
    rintro e w7 ⟨H7, rfl, m7, b7⟩
    have z7 := b7.size
    have M7 := Lib.hid m7
    have K4 := Lib.hid (K4.out.below b7)
    have M5 := Lib.hid (M5.out.below b7)
    have M8 := Lib.hid (M8.out.below b7)
    have B7 := Lib.hid (B6.out.trans (b7.mono (by omega)))
    clear m7 b7 B6
    go_wp2_with fail
    refine (eqIntSS_any _ _ H4 H7 xss w7 K4.out.mat M7.out hn HR.out).mono ?_
    rintro e w8 ⟨rfl, b8⟩
    have z8 := b8.size
    have K4 := Lib.hid (K4.out.below b8)
    have M5 := Lib.hid (M5.out.below b8)
    have M8 := Lib.hid (M8.out.below b8)
    have B8 := Lib.hid (B7.out.trans (b8.mono (by omega)))
    clear b8 B7 M7
    go_wp2_with fail
    refine (markIntSS_any _ _ _ H4 xss w8 K4.out hn HR.out).mono ?_
    rintro e w9 ⟨rfl, _, c9⟩
    have z9 := c9.size
    have M5 := Lib.hid (M5.out.chg c9 (by omega))
    have M8 := Lib.hid (M8.out.chg c9 (by omega))
    have B9 := Lib.hid (B8.out.trans (c9.below (B := w.heap.size) (by omega) (by omega)))
    clear c9 B8 K4
    go_wp2_with fail
    refine (eqIntSS_rv _ _ _ _ _ _ F _ M8.out.rv M5.out HL.out).mono ?_
    rintro e w10 ⟨rfl, b10⟩
    have z10 := b10.size
    have M5 := Lib.hid (M5.out.below b10)
    have M8 := Lib.hid (M8.out.below b10)
    have B10 := Lib.hid (B9.out.trans (b10.mono (by omega)))
    clear b10 B9
    go_wp2_with fail
    refine (markIntSS_rn _ _ _ F _ M8.out HL.out).mono ?_
    rintro e w11 ⟨he11, m8, c11⟩
    rw [HN.out] at he11
    subst he11
    have z11 := c11.size
    have M8 := Lib.hid m8
    have M5 := Lib.hid (M5.out.chg c11 (by omega))
    have B11 := Lib.hid (B10.out.trans (c11.below (B := w.heap.size) (by omega) (by omega)))
    clear c11 B10 m8
    go_wp2_with fail
    refine (heldIntSS_rk _ F _ M8.out HL.out).mono ?_
    rintro e w12 ⟨he12, rfl⟩
    rw [HN.out] at he12
    subst he12
    have hq0 : decide (1 + (n : Int) < 0) = false := by simp; omega
    have hq1 : (1 + (n : Int) != 1 + (n : Int)) = false := by simp
    go_wp2_with fail
    refine (toIntSS_any v xss _ (HA.out.below B11.out) hn HR.out).mono ?_
    rintro e w13 ⟨H13, rfl, m13, b13⟩
    have z13 := b13.size
    have M13 := Lib.hid m13
    have M5 := Lib.hid (M5.out.below b13)
    have M8 := Lib.hid (M8.out.below b13)
    have B13 := Lib.hid (B11.out.trans (b13.mono (by omega)))
    clear m13 b13 B11
    go_wp2_with fail
    refine (stepsI_any _ H13 xss w13 M13.out hn).mono ?_
    rintro e w14 ⟨v12, rfl, m12, b14⟩
    rw [HF.out] at m12
    have M12 := Lib.hid m12
    have z14 := b14.size
    have M5 := Lib.hid (M5.out.below b14)
    have M8 := Lib.hid (M8.out.below b14)
    have B14 := Lib.hid (B13.out.trans (b14.mono (by omega)))
    clear b14 B13 M13 m12
    go_wp2_with fail
    refine (eqIntSS_rv _ _ _ _ _ _ F _ M12.out.rv M5.out HL.out).mono ?_
    rintro e w15 ⟨rfl, b15⟩
    have z15 := b15.size
    have M8 := Lib.hid (M8.out.below b15)
    have B15 := Lib.hid (B14.out.trans (b15.mono (by omega)))
    clear b15 B14
    go_wp2_with fail
    refine (heldIntSS_rk _ F _ M8.out HL.out).mono ?_
    rintro e w16 ⟨he16, rfl⟩
    rw [HN.out] at he16
    subst he16
    go_wp2_with fail
    go_ret
    exact ⟨rfl, B15.out⟩

end Go.Proofs.Ytclfjnoedcimiaa
