/- The law laws.FnFarJoins returns true for all codes, and changes no memory that was there. -/
import Derived.Test.YtclfjnoedcimiaaGapDraw
import Derived.Test.YtclfjnoedcimiaaEqJ
namespace Go.Proofs.Ytclfjnoedcimiaa
open Go.RowKit

theorem gj_at {F : List Int → Nat → Nat → Int × Bool} {n k m : Nat} (h : k < m) : gj (oF F n m) k = scAF (F (gI n (oF F n k))) n n := by
  have := oF_at F n m h
  unfold gj
  rw [List.getD_eq_getElem?_getD, this]
  rfl
theorem Mut.jat {w : World} {base n : Nat} {v : Value} {fs : List Jn} (h : Mut 35 w base v n (jc fs)) (hn : n ≠ 0) : ∃ g c, v = .slice (some ⟨g, 0, none⟩) n c ∧ Blk w g 35 (jc fs) := by
  rcases h with ⟨_, h0, _⟩ | ⟨g, c, h1, _, h2⟩
  · exact absurd h0 hn
  · exact ⟨g, c, h1, h2⟩

set_option maxHeartbeats 8000000 in
set_option maxRecDepth 100000 in
theorem FnFarJoins_main (ad : Option Addr) (n c : Nat) (w : World) (h : CodeB w w.heap.size ad n) (hn : n ≤ 1048576) (hc : n ≤ c) :
    Calls Try.prog 5 #[.slice ad n c] w fun e w' => e = .returned (.bool true) ∧ Below w.heap.size w w' := by
  have H := Lib.hid h
  clear h
  go_enter Try.func5, Try.ntmps5
  go_wp2_with fail
  refine (drawFarJoins_any ad n c w H.out (by omega) hc).mono ?_
  rintro e w2 ⟨v, rfl, g, cg, Hf, Cf, xss, rfl, hl, hm, hb2⟩
  have HM := Lib.hid hm
  have HB := Lib.hid hb2
  have z2 := hb2.size
  clear hm hb2
  have CI := Lib.hid (fun w (h : MatC w g Hf Cf xss) => farJoins_anyC g cg Hf Cf xss w h (by omega))
  have CS := Lib.hid (fun w (h : MatC w g Hf Cf xss) => sfarJoins_anyC g cg Hf Cf xss w h (by omega))
  have CN := Lib.hid (fun w (h : MatC w g Hf Cf xss) => joinsOf_anyC g cg Hf Cf xss w h (by omega))
  have CV := Lib.hid (fun w (h : MatC w g Hf Cf xss) => validGaps_anyC g cg Hf Cf xss w h (by omega))
  have fl := jfV_le xss
  have EQ := Lib.hid (fun v v' B B' w (h : Mut 35 w B v (jfV xss).length (jc (jfV xss))) (h' : Mut 35 w B' v' (jfV xss).length (jc (jfV xss))) => equalJoins_any v v' B B' _ (jfV xss) w h h' rfl (by omega))
  cases hv : gpB xss with
  | false =>
    rw [hv] at CV
    obtain ⟨m, hmm⟩ : ∃ m, xss.length = m := ⟨_, rfl⟩
    obtain ⟨q, hq⟩ : ∃ q, (jfV xss).length = q := ⟨_, rfl⟩
    rw [hmm, hq] at CI CS
    rw [hmm] at CV ⊢
    rw [hq] at EQ
    clear hmm hv hq fl hl
    go_upto_region 5 with (go_at_call 19; refine (CI.out _ HM.out).mono ?_; rintro e w3 ⟨v3, rfl, m3, b3⟩; have HM3 := Lib.hid (HM.out.below b3); have z3 := b3.size)
    go_upto_region 6 with (first
      | (go_at_call 20; refine (CS.out _ HM3.out).mono ?_; rintro e w4 ⟨v4, rfl, m4, b4⟩; have z4 := b4.size)
      | (go_at_call 14; refine (EQ.out _ _ _ _ _ (m3.below b4) m4).mono ?_; rintro e w5 ⟨rfl, b5⟩; have z5 := b5.size)
      | (go_at_call 16; refine (CV.out _ ((HM3.out.below b4).below b5)).mono ?_; rintro e w6 ⟨rfl, b6⟩; have z6 := b6.size))
    go_wp2_with (first
      | (go_at_call 20; refine (CS.out _ (((HM3.out.below b4).below b5).below b6)).mono ?_; rintro e w7 ⟨v7, rfl, m7, b7⟩; have z7 := b7.size)
      | (go_at_call 14; refine (EQ.out _ _ _ _ _ ((((m3.below b4).below b5).below b6).below b7) m7).mono ?_; rintro e w8 ⟨rfl, b8⟩))
    go_ret
    have b37 := ((((b3.trans (b4.mono z3)).trans (b5.mono (by omega))).trans (b6.mono (by omega))).trans (b7.mono (by omega))).trans (b8.mono (by omega))
    exact ⟨rfl, HB.out.trans (b37.mono z2)⟩
  | true =>
    have hg := gp_of hv
    obtain ⟨m, hmm⟩ : ∃ m, xss.length = m := ⟨_, rfl⟩
    have n0 := hg.n0
    have n6 := hg.n6
    have ef : jfV xss = oF (fFar xss) m (m - 1) := by unfold jfV; rw [hv, hmm]; rfl
    have en : jnV xss = oF (fNear xss) m (m - 1) := by unfold jnV; rw [hv, hmm]; rfl
    rw [ef, oF_length, hmm] at CI CS
    rw [ef, oF_length] at EQ
    rw [en, oF_length, hmm] at CN
    rw [hv, hmm] at CV
    rw [hmm] at n0 n6
    have FJ := Lib.hid (fun k (hk : k + 1 < m) => fj_all hg (n := m) (k := k) hk)
    have RI := Lib.hid (fun k (hk : k + 1 + 1 < m) => fj_rise hg hmm hk)
    have FN := Lib.hid (fun k (hk : k + 1 < m) => far_near hg hmm hk)
    have LA := Lib.hid (fun k (hk : k + 1 + 1 = m) => far_last hg hmm hk)
    have DG := Lib.hid (hg.diag 0 (by omega))
    have LEN := Lib.hid (fun a (ha : a < m) => (hg.len a (by omega)).trans hmm)
    have MG := Lib.hid (fun k => most_ge (xss := xss) k)
    have MI := Lib.hid (fun k (hk : k ≤ m) => most_in hg (m := k) (by omega))
    have MO := Lib.hid (fun k => most_of hg.n0 k)
    have FA := Lib.hid (fun k (hk : k < m - 1) => (gj_at (F := fFar xss) (n := m) hk))
    have NA := Lib.hid (fun k (hk : k < m - 1) => (gj_at (F := fNear xss) (n := m) hk))
    have lf : (oF (fFar xss) m (m - 1)).length = m - 1 := oF_length _ _ _
    have ln : (oF (fNear xss) m (m - 1)).length = m - 1 := oF_length _ _ _
    have LF := Lib.hid lf
    have LN := Lib.hid ln
    have HMM := Lib.hid hmm
    obtain ⟨p, hp⟩ : ∃ p, m - 1 = p := ⟨_, rfl⟩
    rw [hp] at CI CS EQ CN FA NA LF LN
    have hpm : p + 1 ≤ m := by omega
    have hpm2 : m ≤ p + 1 := by omega
    have qm : IntKind.i64.wrap ((m : Int) - 1) = (p : Int) := by rw [IntWalk.i64_in _ (by omega)]; omega
    obtain ⟨Fs, hFs⟩ : ∃ Fs, oF (fFar xss) m p = Fs := ⟨_, rfl⟩
    obtain ⟨Ns, hNs⟩ : ∃ Fs, oF (fNear xss) m p = Fs := ⟨_, rfl⟩
    rw [hFs] at CI CS EQ FA LF
    rw [hNs] at CN NA LN
    rw [hmm]
    clear hFs hNs hp ef en lf ln hv hg fl hl hmm n0
    go_upto_region 5 with (go_at_call 19; refine (CI.out _ HM.out).mono ?_; rintro e w3 ⟨v3, rfl, m3, b3⟩)
    have z3 := b3.size
    go_upto_region 7 with (first
      | (go_at_call 20; refine (CS.out _ (HM.out.below b3)).mono ?_; rintro e w4 ⟨v4, rfl, m4, b4⟩; have z4 := b4.size)
      | (go_at_call 14; refine (EQ.out _ _ _ _ _ (m3.below b4) m4).mono ?_; rintro e w5 ⟨rfl, b5⟩; have z5 := b5.size)
      | (go_at_call 16; refine (CV.out _ (((HM.out.below b3).below b4).below b5)).mono ?_; rintro e w6 ⟨rfl, b6⟩; have z6 := b6.size))
    have bb := ((b3.trans (b4.mono z3)).trans (b5.mono (by omega))).trans (b6.mono (by omega))
    have M6 := Lib.hid (((m3.below b4).below b5).below b6)
    go_upto_region 8 with (go_at_call 13; refine (CN.out _ (HM.out.below bb)).mono ?_; rintro e w7 ⟨v7, rfl, m7, b7⟩)
    have z7 := b7.size
    have HM7 := Lib.hid (HM.out.below (bb.trans (b7.mono (by omega))))
    have HB7 := Lib.hid (HB.out.trans ((bb.trans (b7.mono (by omega))).mono z2))
    have MF := Lib.hid (M6.out.below b7)
    have MN := Lib.hid m7
    clear bb b3 b4 b5 b6 b7 m3 m4 m7 M6 HM HB CI CS CN CV EQ z3 z4 z5 z6 z7
    go_wp2_with fail
    go_loopw [6, 7] (fun v6 v7 wr => ∃ a : Nat, v7 = .int .i64 a ∧ a ≤ m ∧ v6 = .int .i64 (mostI xss a) ∧ Below w7.heap.size w7 wr) (fun _ v7 _ => m - (intOf v7).toNat)
    case atStart => exact ⟨0, rfl, Nat.zero_le _, rfl, Below.refl _ _⟩
    case round =>
      obtain ⟨a, rfl, ha, rfl, hb⟩ := hrel
      have HBR := Lib.hid hb
      have mi := MI.out a ha
      clear hb
      by_cases hla : a < m
      · obtain ⟨y1, r1⟩ := (HM7.out.below HBR.out).row (show a < xss.length by rw [HMM.out]; exact hla)
        rw [LEN.out a hla] at y1
        have GR := Lib.hid (greatest_any (Hf a) 0 (Cf a) m (gl xss a) wr r1 (LEN.out a hla) (by omega) (by omega))
        have hs : mostI xss (a + 1) = max (mostI xss a) (gtI (gl xss a) (m - 1)) := by rw [mostI, HMM.out]
        obtain ⟨u, hu⟩ : ∃ u, mostI xss a = u := ⟨_, rfl⟩
        obtain ⟨v, hv⟩ : ∃ u, gtI (gl xss a) (m - 1) = u := ⟨_, rfl⟩
        rw [hv] at GR
        rw [hu, hv] at hs
        rw [hu] at mi ⊢
        obtain ⟨mx, hmx⟩ : ∃ m, max u v = m := ⟨_, rfl⟩
        rw [hmx] at hs
        have m1 : (if u < v then v else u) = mx := by rw [← hmx]; split <;> omega
        have HS := Lib.hid hs
        clear hs hu hv r1
        go_wp2_with (go_at_call 21; refine GR.out.mono ?_; rintro e w8 ⟨rfl, b8⟩)
        go_roundw
        case rel => exact ⟨a + 1, by go_num, by omega, by rw [HS.out], HBR.out.trans (b8.mono HBR.out.size)⟩
        case measure => simp [intOf]; omega
      · obtain rfl : a = m := by omega
        have HM8 := Lib.hid (HM7.out.below HBR.out)
        have MF8 := Lib.hid (MF.out.below HBR.out)
        have MN8 := Lib.hid (MN.out.below HBR.out)
        have HB8 := Lib.hid (HB7.out.trans (HBR.out.mono HB7.out.size))
        obtain ⟨mo, hmo⟩ : ∃ u, mostI xss a = u := ⟨_, rfl⟩
        rw [hmo] at mi ⊢
        have HMO := Lib.hid hmo
        clear HM7 MF MN HBR HB7 hmo
        have e0 : ((p : Int) == (p : Int)) = true := by simp
        by_cases hp0 : p = 0
        · subst hp0
          have e1 : ∃ A c3, v3 = .slice A 0 c3 := by
            rcases MF8.out with ⟨h, _, _⟩ | ⟨g, c, h, _, _⟩
            · exact ⟨_, _, h⟩
            · exact ⟨_, _, h⟩
          obtain ⟨A, c3, rfl⟩ := e1
          clear MF8 MN8
          go_wp2_with fail
          go_rounds 1
          go_ret
          exact ⟨rfl, HB8.out⟩
        · obtain ⟨g3, c3, rfl, k3⟩ := MF8.out.jat hp0
          obtain ⟨g4, c4, rfl, k4⟩ := MN8.out.jat hp0
          have K3 := Lib.hid k3
          have K4 := Lib.hid k4
          have hp1 : 1 ≤ p := by omega
          clear MF8 MN8 k3 k4
          obtain ⟨wo, rfl⟩ : ∃ wo : World, wo = wr := ⟨_, rfl⟩
          go_wp2_with fail
          go_loopw [8] (fun v8 wr => ∃ k : Nat, v8 = .int .i64 k ∧ k ≤ p ∧ Below wo.heap.size wo wr) (fun v8 _ => p - (intOf v8).toNat)
          case atStart => exact ⟨0, rfl, Nat.zero_le _, Below.refl _ _⟩
          case round =>
            obtain ⟨k, rfl, hk, hb⟩ := hrel
            have HBR := Lib.hid hb
            clear hb
            by_cases hlk : k < p
            · obtain ⟨x1, x2, x3⟩ := (K3.out.below HBR.out).jn (k := k) (by rw [LF.out]; exact hlk)
              obtain ⟨y1, y2, y3⟩ := (K4.out.below HBR.out).jn (k := k) (by rw [LN.out]; exact hlk)
              have f1 := FA.out k hlk
              have f2 := NA.out k hlk
              have fj' := FJ.out k (by omega)
              have fn := FN.out k (by omega)
              have l1 : ((gj Fs k).1 : Int) < ((gj Fs k).2.1 : Int) := by rw [f1]; have := fj'.lt; unfold fj at this; omega
              have l2 : (gj Ns k).2.2 ≤ (gj Fs k).2.2 := by rw [f1, f2]; exact fn
              have RK := Lib.hid (fun (j : Nat) (hj : k = j + 1) => show (gj Fs j).2.2 ≤ (gj Fs k).2.2 by rw [f1, FA.out j (by omega), hj]; exact RI.out j (by omega))
              have XK := Lib.hid (fun (j : Nat) (hj : j < p) => ((K3.out.below HBR.out).jn (k := j) (by rw [LF.out]; exact hj)).2.2)
              clear f1 f2 fj' fn
              obtain ⟨q1, hq1⟩ : ∃ q, (gj Fs k).1 = q := ⟨_, rfl⟩
              obtain ⟨q2, hq2⟩ : ∃ q, (gj Fs k).2.1 = q := ⟨_, rfl⟩
              obtain ⟨q3, hq3⟩ : ∃ q, (gj Fs k).2.2 = q := ⟨_, rfl⟩
              obtain ⟨r3, hr3⟩ : ∃ q, (gj Ns k).2.2 = q := ⟨_, rfl⟩
              rw [hq1] at x1 l1
              rw [hq2] at x2 l1
              rw [hq3] at x3 l2 RK
              rw [hr3] at y3 l2
              have t2 : decide ((q1 : Int) ≥ (q2 : Int)) = false := by simp; omega
              have t2' : decide ((q2 : Int) ≤ (q1 : Int)) = false := by simp; omega
              have t2n : decide (q2 ≤ q1) = false := by simp; omega
              have t3 : decide (q3 < r3) = false := by simp; omega
              clear hq1 hq2 hq3 hr3 y1 y2 l1 l2
              by_cases hk0 : k = 0
              · subst hk0
                simp only [Nat.zero_mul, Nat.zero_add] at x1 x2 x3 y3
                clear RK XK
                go_wp2_with fail
                go_quiet (fail)
                go_wp2_with fail
                go_roundw
                case rel => exact ⟨1, rfl, by omega, Below.drewN HBR.out _⟩
                case measure => simp [intOf]; omega
              · obtain ⟨j, hj⟩ : ∃ j, k = j + 1 := ⟨k - 1, by omega⟩
                have rk := RK.out j hj
                have x4 := XK.out j (by omega)
                obtain ⟨q4, hq4⟩ : ∃ q, (gj Fs j).2.2 = q := ⟨_, rfl⟩
                rw [hq4] at rk x4
                have t1 : decide ((0 : Int) < (k : Int)) = true := by simp; omega
                have t1' : decide ((k : Int) > 0) = true := by simp; omega
                have t1n : decide (0 < k) = true := by simp; omega
                have t4 : decide (q3 < q4) = false := by simp; omega
                have q5 : IntKind.i64.wrap ((k : Int) - 1) = (j : Int) := by rw [IntWalk.i64_in _ (by omega)]; omega
                have hjp : (j : Int) < (p : Int) := by omega
                have hjp2 : j < p := by omega
                have hkj : j + 1 ≤ k := by omega
                clear hq4 hj hk0 rk RK XK
                go_wp2_with fail
                go_quiet (fail)
                go_wp2_with fail
                go_roundw
                case rel => exact ⟨k + 1, by go_num, by omega, Below.drewN HBR.out _⟩
                case measure => simp [intOf]; omega
            · obtain rfl : k = p := by omega
              obtain ⟨j, hj⟩ : ∃ j, k = j + 1 := ⟨k - 1, by omega⟩
              have x4 := ((K3.out.below HBR.out).jn (k := j) (by rw [LF.out]; omega)).2.2
              have hla := LA.out j (by omega)
              have f1 : (gj Fs j).2.2 = (fj xss a j).2.2 := by rw [FA.out j (by omega)]; rfl
              have hh : (gj Fs j).2.2 = mo := by
                rw [f1, ← HMO.out]
                have mg := MG.out a
                rw [HMM.out] at mg
                obtain ⟨l1, i, i', hi, hi', l2⟩ := hla
                have g1 := mg.2 i i' hi hi'
                rcases MO.out a with e | ⟨b, b', hb, hb', e⟩
                · have := mg.1; have d0 := l1 0 0 (by omega) (by omega); rw [DG.out] at d0; omega
                · rw [HMM.out] at hb'
                  have g2 := l1 b b' hb hb'
                  omega
              rw [hh] at x4
              have q5 : IntKind.i64.wrap ((k : Int) - 1) = (j : Int) := by rw [IntWalk.i64_in _ (by omega)]; omega
              have hjp : (j : Int) < (k : Int) := by omega
              have hjp2 : j < k := by omega
              have t5 : ((k : Int) == 0) = false := by rw [beq_eq_false_iff_ne]; omega
              have t6 : (mo == mo) = true := by simp
              clear hh f1 hla hj
              go_wp2_with fail
              go_ret
              exact ⟨rfl, HB8.out.trans (HBR.out.mono HB8.out.size)⟩

set_option maxHeartbeats 400000 in
theorem FnFarJoins_long (ad : Option Addr) (n c : Nat) (w : World) (h : 1048576 < n) (h1 : n ≤ 9223372036854775807) :
    Calls Try.prog 5 #[.slice ad n c] w fun e w' => e = .returned (.bool true) ∧ Below w.heap.size w w' := by
  go_enter Try.func5, Try.ntmps5
  go_wp2_with fail
  go_ret
  exact ⟨rfl, Below.refl _ _⟩

end Go.Proofs.Ytclfjnoedcimiaa
