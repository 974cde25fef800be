/- The law laws.FnJoinsOf returns true for all codes, and changes no memory that was there. -/
import Derived.Test.YtclfjnoedcimiaaGapDraw
import Derived.Test.YtclfjnoedcimiaaEqJ
import Derived.Test.YtclfjnoedcimiaaReachI
namespace Go.Proofs.Ytclfjnoedcimiaa
open Go.RowKit

theorem gj_at {F : List Int → Nat → Nat → Int × Bool} {n k m : Nat} (h : k < m) : gj (oF F n m) k = scAF (F (gI n (oF F n k))) n n := by
  have := oF_at F n m h
  unfold gj
  rw [List.getD_eq_getElem?_getD, this]
  rfl
theorem Mut.jat {w : World} {base n : Nat} {v : Value} {fs : List Jn} (h : Mut 35 w base v n (jc fs)) (hn : n ≠ 0) : ∃ g c, v = .slice (some ⟨g, 0, none⟩) n c ∧ Blk w g 35 (jc fs) := by
  rcases h with ⟨_, h0, _⟩ | ⟨g, c, h1, _, h2⟩
  · exact absurd h0 hn
  · exact ⟨g, c, h1, h2⟩
/-- The height of the k-th near join. -/
def hN (xss : List (List Int)) (n k : Nat) : Int := (nj xss n k).2.2
theorem hN_range {xss : List (List Int)} {n k : Nat} (hg : Gp xss) (hn : xss.length = n) (hk : k + 1 < n) : 0 ≤ hN xss n k ∧ hN xss n k ≤ 40 := by
  have j := nj_all hg hn hk
  have h1 := j.lt
  have h2 := j.ltn
  unfold hN
  rw [j.hgt]
  exact ⟨gpm_nonneg hg (by omega) (by omega), gm_small hg (by omega) (by omega)⟩

set_option maxHeartbeats 8000000 in
set_option maxRecDepth 100000 in
theorem FnJoinsOf_main (ad : Option Addr) (n c : Nat) (w : World) (h : CodeB w w.heap.size ad n) (hn : n ≤ 1048576) (hc : n ≤ c) :
    Calls Try.prog 4 #[.slice ad n c] w fun e w' => e = .returned (.bool true) ∧ Below w.heap.size w w' := by
  have H := Lib.hid h
  clear h
  go_enter Try.func4, Try.ntmps4
  go_wp2_with fail
  refine (drawJoinsOf_any ad n c w H.out (by omega) hc).mono ?_
  rintro e w2 ⟨v, rfl, g, cg, Hf, Cf, xss, rfl, hl, hm, hb2⟩
  have HM := Lib.hid hm
  have HB := Lib.hid hb2
  have z2 := hb2.size
  clear hm hb2
  have CI := Lib.hid (fun w (h : MatC w g Hf Cf xss) => joinsOf_anyC g cg Hf Cf xss w h (by omega))
  have CS := Lib.hid (fun w (h : MatC w g Hf Cf xss) => sjoinsOf_anyC g cg Hf Cf xss w h (by omega))
  have CV := Lib.hid (fun w (h : MatC w g Hf Cf xss) => validGaps_anyC g cg Hf Cf xss w h (by omega))
  have fl := jnV_le xss
  have EQ := Lib.hid (fun v v' B B' w (h : Mut 35 w B v (jnV xss).length (jc (jnV xss))) (h' : Mut 35 w B' v' (jnV xss).length (jc (jnV xss))) => equalJoins_any v v' B B' _ (jnV xss) w h h' rfl (by omega))
  cases hv : gpB xss with
  | false =>
    rw [hv] at CV
    obtain ⟨m, hmm⟩ : ∃ m, xss.length = m := ⟨_, rfl⟩
    obtain ⟨q, hq⟩ : ∃ q, (jnV xss).length = q := ⟨_, rfl⟩
    rw [hmm, hq] at CI CS
    rw [hmm] at CV ⊢
    rw [hq] at EQ
    clear hmm hv hq fl hl
    go_upto_region 5 with (go_at_call 13; refine (CI.out _ HM.out).mono ?_; rintro e w3 ⟨v3, rfl, m3, b3⟩; have HM3 := Lib.hid (HM.out.below b3); have z3 := b3.size)
    go_upto_region 6 with (first
      | (go_at_call 15; refine (CS.out _ HM3.out).mono ?_; rintro e w4 ⟨v4, rfl, m4, b4⟩; have z4 := b4.size)
      | (go_at_call 14; refine (EQ.out _ _ _ _ _ (m3.below b4) m4).mono ?_; rintro e w5 ⟨rfl, b5⟩; have z5 := b5.size)
      | (go_at_call 16; refine (CV.out _ ((HM3.out.below b4).below b5)).mono ?_; rintro e w6 ⟨rfl, b6⟩; have z6 := b6.size))
    go_wp2_with (first
      | (go_at_call 15; refine (CS.out _ (((HM3.out.below b4).below b5).below b6)).mono ?_; rintro e w7 ⟨v7, rfl, m7, b7⟩; have z7 := b7.size)
      | (go_at_call 14; refine (EQ.out _ _ _ _ _ ((((m3.below b4).below b5).below b6).below b7) m7).mono ?_; rintro e w8 ⟨rfl, b8⟩))
    go_ret
    have b37 := ((((b3.trans (b4.mono z3)).trans (b5.mono (by omega))).trans (b6.mono (by omega))).trans (b7.mono (by omega))).trans (b8.mono (by omega))
    exact ⟨rfl, HB.out.trans (b37.mono z2)⟩
  | true =>
    have hg := gp_of hv
    obtain ⟨m, hmm⟩ : ∃ m, xss.length = m := ⟨_, rfl⟩
    have n0 := hg.n0
    have n6 := hg.n6
    have en : jnV xss = oF (fNear xss) m (m - 1) := by unfold jnV; rw [hv, hmm]; rfl
    rw [en, oF_length, hmm] at CI CS
    rw [en, oF_length] at EQ
    have TL := Lib.hid (fun w (h : MatC w g Hf Cf xss) => treeLength_any g cg Hf Cf xss m (suF (hN xss m) (m - 1)) w h hv hmm (near_reach hg hmm (by omega)).symm)
    rw [hv, hmm] at CV
    rw [hmm] at n0 n6
    have NJ := Lib.hid (fun k (hk : k + 1 < m) => nj_all hg hmm hk)
    have RI := Lib.hid (fun k (hk : k + 1 + 1 < m) => nj_rise hg hmm hk)
    have HR := Lib.hid (fun k (hk : k + 1 < m) => hN_range hg hmm hk)
    have CR := Lib.hid (fun (j : Nat) (hj : j < m) w (h : MatC w g Hf Cf xss) => (by
      have := (h.row (j := j) (by omega)).1
      rw [hg.len j (by omega), hmm] at this
      exact this : w.cell? ⟨g, j, none⟩ = some (.slice (some ⟨Hf j, 0, none⟩) m (Cf j))))
    have CC := Lib.hid (fun (j i : Nat) (hj : j < m) (hi : i < m) w (h : MatC w g Hf Cf xss) => (by
      have := (h.row (j := j) (by omega)).2.cell i (by rw [hg.len j (by omega)]; omega)
      rw [Nat.zero_add] at this
      exact this : w.cell? ⟨Hf j, i, none⟩ = some (.int .i64 (gm xss j i))))
    have NA := Lib.hid (fun k (hk : k < m - 1) => (gj_at (F := fNear xss) (n := m) hk))
    have ln : (oF (fNear xss) m (m - 1)).length = m - 1 := oF_length _ _ _
    have LN := Lib.hid ln
    obtain ⟨p, hp⟩ : ∃ p, m - 1 = p := ⟨_, rfl⟩
    rw [hp] at CI CS EQ NA LN TL
    have hpm : p + 1 ≤ m := by omega
    have hpm2 : m ≤ p + 1 := by omega
    have qm : IntKind.i64.wrap ((m : Int) - 1) = (p : Int) := by rw [IntWalk.i64_in _ (by omega)]; omega
    have SR := Lib.hid (fun k (hk : k ≤ p) => suF_range (f := hN xss m) k fun i hi => HR.out i (by omega))
    obtain ⟨Ns, hNs⟩ : ∃ Fs, oF (fNear xss) m p = Fs := ⟨_, rfl⟩
    rw [hNs] at CI CS EQ NA LN
    rw [hmm]
    clear hNs hp en ln hv hg fl hl hmm n0 HR
    go_upto_region 5 with (go_at_call 13; refine (CI.out _ HM.out).mono ?_; rintro e w3 ⟨v3, rfl, m3, b3⟩)
    have z3 := b3.size
    go_upto_region 7 with (first
      | (go_at_call 15; refine (CS.out _ (HM.out.below b3)).mono ?_; rintro e w4 ⟨v4, rfl, m4, b4⟩; have z4 := b4.size)
      | (go_at_call 14; refine (EQ.out _ _ _ _ _ (m3.below b4) m4).mono ?_; rintro e w5 ⟨rfl, b5⟩; have z5 := b5.size)
      | (go_at_call 16; refine (CV.out _ (((HM.out.below b3).below b4).below b5)).mono ?_; rintro e w6 ⟨rfl, b6⟩; have z6 := b6.size))
    have bb := ((b3.trans (b4.mono z3)).trans (b5.mono (by omega))).trans (b6.mono (by omega))
    have M6 := Lib.hid (((m3.below b4).below b5).below b6)
    have HM6 := Lib.hid (HM.out.below bb)
    have HB6 := Lib.hid (HB.out.trans (bb.mono z2))
    clear bb b3 b4 b5 b6 m3 m4 z3 z4 z5 z6 CI CS CV EQ HM HB
    by_cases hp0 : p = 0
    · subst hp0
      have e1 : ∃ A c3, v3 = .slice A 0 c3 := by
        rcases M6.out with ⟨h, _, _⟩ | ⟨g, c, h, _, _⟩
        · exact ⟨_, _, h⟩
        · exact ⟨_, _, h⟩
      obtain ⟨A, c3, rfl⟩ := e1
      clear M6
      obtain ⟨wo, hwo⟩ : ∃ wo : World, w6 = wo := ⟨_, rfl⟩
      rw [hwo] at HM6 HB6 ⊢
      clear hwo
      have hs0 : suF (hN xss m) 0 = 0 := rfl
      rw [hs0] at TL
      have e0 : ((0 : Int) == 0) = true := by simp
      go_wp2_with fail
      go_loopw [5, 6] (fun v5 v6 wr => v5 = .int .i64 0 ∧ v6 = .int .i64 0 ∧ wr = wo) (fun _ _ _ => 0)
      case atStart => exact ⟨rfl, rfl, rfl⟩
      case round =>
        obtain ⟨rfl, rfl, rfl⟩ := hrel
        go_wp2_with (go_at_call 17; refine (TL.out _ HM6.out).mono ?_; rintro e w7 ⟨rfl, b7⟩)
        go_ret
        exact ⟨rfl, HB6.out.trans (b7.mono HB6.out.size)⟩
    · obtain ⟨g3, c3, rfl, k3⟩ := M6.out.jat hp0
      have K3 := Lib.hid k3
      have hp1 : 1 ≤ p := by omega
      clear M6 k3
      obtain ⟨wo, hwo⟩ : ∃ wo : World, w6 = wo := ⟨_, rfl⟩
      rw [hwo] at HM6 HB6 K3 ⊢
      clear hwo
      go_wp2_with fail
      go_loopw [5, 6] (fun v5 v6 wr => ∃ k : Nat, v6 = .int .i64 k ∧ k ≤ p ∧ v5 = .int .i64 (suF (hN xss m) k) ∧ Below wo.heap.size wo wr) (fun _ v6 _ => p - (intOf v6).toNat)
      case atStart => exact ⟨0, rfl, Nat.zero_le _, rfl, Below.refl _ _⟩
      case round =>
        obtain ⟨k, rfl, hk, rfl, hb⟩ := hrel
        have HBR := Lib.hid hb
        clear hb
        by_cases hlk : k < p
        · obtain ⟨x1, x2, x3⟩ := (K3.out.below HBR.out).jn (k := k) (by rw [LN.out]; exact hlk)
          have f1 := NA.out k hlk
          have j := NJ.out k (by omega)
          have sr := SR.out k (by omega)
          have sr' := SR.out (k + 1) (by omega)
          have SU := Lib.hid (show suF (hN xss m) k + (gj Ns k).2.2 = suF (hN xss m) (k + 1) by rw [f1]; rfl)
          have l1 : (gj Ns k).1 < m := by rw [f1]; have := j.lt; have := j.ltn; unfold nj at *; omega
          have l2 : (gj Ns k).2.1 < m := by rw [f1]; exact j.ltn
          have l3 : gm xss (gj Ns k).1 (gj Ns k).2.1 = (gj Ns k).2.2 := by rw [f1]; exact j.hgt.symm
          have RK := Lib.hid (fun (j : Nat) (hj : k = j + 1) => show (gj Ns j).2.2 ≤ (gj Ns k).2.2 by rw [f1, NA.out j (by omega), hj]; exact RI.out j (by omega))
          have XK := Lib.hid (fun (j : Nat) (hj : j < p) => ((K3.out.below HBR.out).jn (k := j) (by rw [LN.out]; exact hj)).2.2)
          clear f1 j
          obtain ⟨q1, hq1⟩ : ∃ q, (gj Ns k).1 = q := ⟨_, rfl⟩
          obtain ⟨q2, hq2⟩ : ∃ q, (gj Ns k).2.1 = q := ⟨_, rfl⟩
          obtain ⟨q3, hq3⟩ : ∃ q, (gj Ns k).2.2 = q := ⟨_, rfl⟩
          rw [hq1] at x1 l1 l3
          rw [hq2] at x2 l2 l3
          rw [hq3] at x3 l3 RK SU
          have HMR := Lib.hid (HM6.out.below HBR.out)
          have y1 := CR.out q1 l1 _ HMR.out
          have y2 := CC.out q1 q2 l1 l2 _ HMR.out
          rw [l3] at y2
          obtain ⟨s, hs⟩ : ∃ s, suF (hN xss m) k = s := ⟨_, rfl⟩
          obtain ⟨s', hs'⟩ : ∃ s, suF (hN xss m) (k + 1) = s := ⟨_, rfl⟩
          rw [hs] at sr SU ⊢
          rw [hs'] at sr' SU
          have HS' := Lib.hid hs'
          have qs : IntKind.i64.wrap (s + q3) = s' := by rw [IntWalk.i64_in _ (by have := SU.out; omega)]; exact SU.out
          have t3 : (q3 != q3) = false := by simp
          have l1' : (q1 : Int) < (m : Int) := by omega
          have l2' : (q2 : Int) < (m : Int) := by omega
          clear hq1 hq2 hq3 l3 hs hs'
          by_cases hk0 : k = 0
          · subst hk0
            simp only [Nat.zero_mul, Nat.zero_add] at x1 x2 x3
            clear RK XK
            go_wp2_with fail
            go_quiet (fail)
            go_wp2_with fail
            go_roundw
            case rel => exact ⟨1, rfl, by omega, by rw [HS'.out], Below.drewN HBR.out _⟩
            case measure => simp [intOf]; omega
          · obtain ⟨j, hj⟩ : ∃ j, k = j + 1 := ⟨k - 1, by omega⟩
            have rk := RK.out j hj
            have x4 := XK.out j (by omega)
            obtain ⟨q4, hq4⟩ : ∃ q, (gj Ns j).2.2 = q := ⟨_, rfl⟩
            rw [hq4] at rk x4
            have t1 : decide ((0 : Int) < (k : Int)) = true := by simp; omega
            have t1' : decide ((k : Int) > 0) = true := by simp; omega
            have t1n : decide (0 < k) = true := by simp; omega
            have t4 : decide (q3 < q4) = false := by simp; omega
            have q5 : IntKind.i64.wrap ((k : Int) - 1) = (j : Int) := by rw [IntWalk.i64_in _ (by omega)]; omega
            have hjp : (j : Int) < (p : Int) := by omega
            have hjp2 : j < p := by omega
            have hkj : j + 1 ≤ k := by omega
            clear hq4 hj hk0 rk RK XK
            go_wp2_with fail
            go_quiet (fail)
            go_wp2_with fail
            go_roundw
            case rel => exact ⟨k + 1, by go_num, by omega, by rw [HS'.out], Below.drewN HBR.out _⟩
            case measure => simp [intOf]; omega
        · obtain rfl : k = p := by omega
          have HMR := Lib.hid (HM6.out.below HBR.out)
          obtain ⟨s, hs⟩ : ∃ s, suF (hN xss m) k = s := ⟨_, rfl⟩
          rw [hs] at TL ⊢
          have e0 : ((k : Int) == (k : Int)) = true := by simp
          have e1 : (s == s) = true := by simp
          clear hs
          go_wp2_with (go_at_call 17; refine (TL.out _ HMR.out).mono ?_; rintro e w7 ⟨rfl, b7⟩)
          go_ret
          exact ⟨rfl, HB6.out.trans ((HBR.out.trans (b7.mono HBR.out.size)).mono HB6.out.size)⟩

set_option maxHeartbeats 400000 in
theorem FnJoinsOf_long (ad : Option Addr) (n c : Nat) (w : World) (h : 1048576 < n) (h1 : n ≤ 9223372036854775807) :
    Calls Try.prog 4 #[.slice ad n c] w fun e w' => e = .returned (.bool true) ∧ Below w.heap.size w w' := by
  go_enter Try.func4, Try.ntmps4
  go_wp2_with fail
  go_ret
  exact ⟨rfl, Below.refl _ _⟩

end Go.Proofs.Ytclfjnoedcimiaa
