/- spec.CentersOf. -/
import Derived.Test.YtclfjnoedcimiaaCen
namespace Go.Proofs.Ytclfjnoedcimiaa
open Go.RowKit

set_option maxHeartbeats 4000000 in
theorem nearSum_any (g cg n s : Nat) (H Cp : Nat → Nat) (xss : List (List Int)) (w : World) (h : MatC w g H Cp xss) (hg : Gp xss) (hn : xss.length = n) (hs : s < 64) (hc : 1 ≤ cntN s n) :
    Calls Try.prog 41 #[.slice (some ⟨g, 0, none⟩) n cg, .int .i64 s] w fun e w' => e = .returned (.int .i64 (smI xss s n n)) ∧ w = w' := by
  have n6 := hg.n6
  rw [hn] at n6
  have HM := Lib.hid h
  have HN := Lib.hid hn
  have LN := Lib.hid (fun a (ha : a < n) => (hg.len a (by omega)).trans hn)
  have GI := Lib.hid (fun a b (ha : a < n) (hb : b < n) => gm_in hg (a := a) (b := b) (by omega) (by omega))
  have NI := Lib.hid (fun a d (ha : a < n) (hd : d ≤ n) => nrI_in hg (s := s) (a := a) (by omega) d (by omega))
  have SI := Lib.hid (fun m (hm : m ≤ n) => smI_in hg s m (by omega))
  have EQ := Lib.hid (fun a (ha : a < n) => nr_eq hg (s := s) (a := a) (by omega) (by rw [hn]; exact hc))
  rw [hn] at SI EQ
  clear h hg hn hc
  go_enter Try.func41, Try.ntmps41
  go_wp2_with fail
  go_loop [5, 6] (fun v5 v6 => ∃ a : Nat, v6 = .int .i64 a ∧ a ≤ n ∧ v5 = .int .i64 (smI xss s n a)) (fun _ v6 => n - (intOf v6).toNat)
  case atStart => exact ⟨0, rfl, by omega, rfl⟩
  case round =>
    obtain ⟨a, rfl, ha, rfl⟩ := hrel
    have bs := SI.out a ha
    have hs3 : smI xss s n (a + 1) = smI xss s n a + nrI xss s a n := rfl
    have HS3 := Lib.hid hs3
    clear hs3
    obtain ⟨tt, htt⟩ : ∃ t, smI xss s n a = t := ⟨_, rfl⟩
    have HTT := Lib.hid htt
    rw [htt] at bs HS3 ⊢
    clear htt
    by_cases hla : a < n
    · obtain ⟨y1, r1⟩ := HM.out.row (show a < xss.length by rw [HN.out]; exact hla)
      rw [LN.out a hla] at y1
      have R1 := Lib.hid r1
      clear r1
      go_wp2_with fail
      go_loop [7, 8] (fun v7 v8 => ∃ c : Nat, v8 = .int .i64 c ∧ c ≤ n ∧ v7 = .int .i64 (nrS xss s a c)) (fun _ v8 => n - (intOf v8).toNat)
      case atStart => exact ⟨0, rfl, by omega, rfl⟩
      case round =>
        obtain ⟨c, rfl, hc, rfl⟩ := hrel
        by_cases hlc : c < n
        · have x1 := R1.out.cell c (by rw [LN.out a hla]; exact hlc)
          rw [Nat.zero_add] at x1
          have e0 : gi (gl xss a) c = gm xss a c := rfl
          rw [e0] at x1
          have hs4 : nrS xss s a (c + 1) = if s / 2 ^ c % 2 = 1 ∧ (nrS xss s a c < 0 ∨ gm xss a c < nrS xss s a c) then gm xss a c else nrS xss s a c := rfl
          have BT := Lib.hid (fun w => bit_any s c w (by omega) (by omega))
          obtain ⟨x, hx⟩ : ∃ x, gm xss a c = x := ⟨_, rfl⟩
          obtain ⟨nn, hnn⟩ : ∃ x, nrS xss s a c = x := ⟨_, rfl⟩
          rw [hx] at x1 hs4
          rw [hnn] at hs4 ⊢
          obtain ⟨u, hu⟩ : ∃ u, s / 2 ^ c % 2 = u := ⟨_, rfl⟩
          rw [hu] at hs4 BT
          clear hx hnn hu e0
          by_cases t : u = 1
          · have t2 : ((u : Int) == 1) = true := by rw [t]; rfl
            by_cases tn : nn < 0
            · have t3 : decide (nn < 0) = true := by simpa using tn
              rw [if_pos ⟨t, .inl tn⟩] at hs4
              have S4 := Lib.hid hs4
              clear hs4 t
              go_wp2_with (go_at_call 40; refine (BT.out _).mono ?_; rintro e w3 ⟨rfl, rfl⟩)
              go_round
              case rel => exact ⟨c + 1, by go_num, by omega, by rw [S4.out]⟩
              case measure => simp [intOf]; omega
            · have t3 : decide (nn < 0) = false := by simpa using tn
              by_cases tl : x < nn
              · have t4 : decide (x < nn) = true := by simpa using tl
                rw [if_pos ⟨t, .inr tl⟩] at hs4
                have S4 := Lib.hid hs4
                clear hs4 t
                go_wp2_with (go_at_call 40; refine (BT.out _).mono ?_; rintro e w3 ⟨rfl, rfl⟩)
                go_round
                case rel => exact ⟨c + 1, by go_num, by omega, by rw [S4.out]⟩
                case measure => simp [intOf]; omega
              · have t4 : decide (x < nn) = false := by simpa using tl
                rw [if_neg (fun hh => hh.2.elim tn tl)] at hs4
                have S4 := Lib.hid hs4
                clear hs4 t tn tl
                go_wp2_with (go_at_call 40; refine (BT.out _).mono ?_; rintro e w3 ⟨rfl, rfl⟩)
                go_round
                case rel => exact ⟨c + 1, by go_num, by omega, by rw [S4.out]⟩
                case measure => simp [intOf]; omega
          · have t2 : ((u : Int) == 1) = false := by rw [beq_eq_false_iff_ne]; omega
            rw [if_neg (fun hh => t hh.1)] at hs4
            have S4 := Lib.hid hs4
            clear hs4 t
            go_wp2_with (go_at_call 40; refine (BT.out _).mono ?_; rintro e w3 ⟨rfl, rfl⟩)
            go_round
            case rel => exact ⟨c + 1, by go_num, by omega, by rw [S4.out]⟩
            case measure => simp [intOf]; omega
        · obtain rfl : c = n := by omega
          rw [EQ.out a hla]
          have bn := NI.out a c hla (Nat.le_refl _)
          obtain ⟨nn, hnn⟩ : ∃ x, nrI xss s a c = x := ⟨_, rfl⟩
          rw [hnn] at HS3 bn ⊢
          have q9 : IntKind.i64.wrap (tt + nn) = tt + nn := IntWalk.i64_in _ (by omega)
          clear hnn
          go_wp2_with fail
          go_round
          case rel => exact ⟨a + 1, by go_num, by omega, by rw [HS3.out]⟩
          case measure => simp [intOf]; omega
    · obtain rfl : a = n := by omega
      go_wp2_with fail
      go_ret
      exact ⟨by rw [HTT.out]; rfl, rfl⟩

set_option maxHeartbeats 4000000 in
theorem scenters_good (g cg n k : Nat) (H Cp : Nat → Nat) (xss : List (List Int)) (w : World) (h : MatC w g H Cp xss) (hv : gpB xss = true) (hn : xss.length = n) (h1 : 1 ≤ k) (h2 : k ≤ n) :
    Calls Try.prog 11 #[.slice (some ⟨g, 0, none⟩) n cg, .int .i64 k] w fun e w' => e = .returned (.tuple #[.int .i64 (scC xss n k (2 ^ n - 1)).1, .int .i64 (scC xss n k (2 ^ n - 1)).2]) ∧ Below w.heap.size w w' := by
  have hg := gp_of hv
  have n6 := hg.n6
  have HM := Lib.hid h
  have CV := Lib.hid (svalidGaps_anyC g cg H Cp xss w h (by omega))
  have HI := Lib.hid (inB_iff.2 (show (1 : Int) ≤ (k : Int) ∧ (k : Int) ≤ (n : Int) by omega))
  have NS := Lib.hid (fun s w (h : MatC w g H Cp xss) (hs : s < 64) (hc : cntN s n = k) => nearSum_any g cg n s H Cp xss w h hg hn hs (by omega))
  have HC := Lib.hid (fun m => scC_is hg k m)
  have SI := Lib.hid (fun s m (hm : m ≤ n) => smI_in hg s m (by omega))
  rw [hn] at CV n6 HC SI
  rw [hv] at CV
  obtain ⟨p1, p2⟩ := pow_six n6
  obtain ⟨P, hP⟩ : ∃ P, 2 ^ n = P := ⟨_, rfl⟩
  have PW := Lib.hid (fun w => power_any n P w (by omega) hP)
  rw [hP] at p1 p2 ⊢
  obtain ⟨D, hD⟩ : ∃ D, P - 1 = D := ⟨_, rfl⟩
  rw [hD]
  have hPD1 : P ≤ D + 1 := by omega
  have hPD2 : D + 1 ≤ P := by omega
  have HN := Lib.hid hn
  clear h hg hP hD hn p1 hv
  go_enter Try.func11, Try.ntmps11
  go_upto_region 5 with (first
    | (go_at_call 37; refine CV.out.mono ?_; rintro e w1 ⟨rfl, hb1⟩)
    | (go_at_call 38; refine (inRange_any _ _ _ _).mono ?_; rintro e w2 ⟨rfl, rfl⟩; rw [HI.out]))
  have z1 := hb1.size
  have HB1 := Lib.hid hb1
  have HM := Lib.hid (HM.out.below hb1)
  clear hb1
  go_wp2_with fail
  go_loop [6, 7, 8] (fun v6 v7 v8 => ∃ s : Nat, v8 = .int .i64 s ∧ 1 ≤ s ∧ s ≤ P ∧ v6 = .int .i64 (scC xss n k (s - 1)).1 ∧ v7 = .int .i64 (scC xss n k (s - 1)).2) (fun _ _ v8 => P - (intOf v8).toNat)
  case atStart => exact ⟨1, rfl, by omega, by omega, rfl, rfl⟩
  case round =>
    obtain ⟨s, rfl, hs1, hs2, rfl, rfl⟩ := hrel
    by_cases hsl : s < P
    · have q1 : IntKind.i64.wrap ((s : Int) + 1) = ((s + 1 : Nat) : Int) := by rw [IntWalk.i64_in _ (by omega)]; omega
      have q2 : (s : Int) < (P : Int) := by omega
      have hst : scC xss n k (s + 1 - 1) = stC xss n k (scC xss n k (s - 1)) s := by
        obtain ⟨s', rfl⟩ : ∃ s', s = s' + 1 := ⟨s - 1, by omega⟩
        rfl
      have HST := Lib.hid hst
      have hsame : (scC xss n k (s - 1)).1 < 0 ↔ (scC xss n k (s - 1)).2 < 0 := by
        rcases HC.out (s - 1) with ⟨e, _⟩ | ⟨b, b1, b2, b3, e, _⟩
        · rw [e]
        · have := (SI.out b n (Nat.le_refl _)).1
          rw [e]
          dsimp only
          omega
      clear hst
      obtain ⟨st, hst⟩ : ∃ st, scC xss n k (s - 1) = st := ⟨_, rfl⟩
      rw [hst] at hsame ⊢
      have HS := Lib.hid hst
      clear hst
      obtain ⟨b, l⟩ := st
      have HSA := Lib.hid (show b < 0 ↔ l < 0 from hsame)
      clear hsame
      go_wp2_with (go_at_call 39; refine (PW.out _).mono ?_; rintro e w3 ⟨rfl, rfl⟩)
      go_loop [9, 10] (fun v9 v10 => ∃ c : Nat, v10 = .int .i64 c ∧ c ≤ n ∧ v9 = .int .i64 (cntN s c : Nat) ∧ cntN s c ≤ c) (fun _ v10 => n - (intOf v10).toNat)
      case atStart => exact ⟨0, rfl, by omega, rfl, Nat.le_refl _⟩
      case round =>
        obtain ⟨c, rfl, hc, rfl, hcb⟩ := hrel
        by_cases hlc : c < n
        · have BT := Lib.hid (fun w => bit_any s c w (by omega) (by omega))
          have hs4 : cntN s (c + 1) = cntN s c + s / 2 ^ c % 2 := rfl
          have hu2 := Nat.mod_lt (s / 2 ^ c) (show 2 > 0 by decide)
          obtain ⟨u, hu⟩ : ∃ u, s / 2 ^ c % 2 = u := ⟨_, rfl⟩
          obtain ⟨cc, hcc⟩ : ∃ x, cntN s c = x := ⟨_, rfl⟩
          rw [hu] at BT hs4 hu2
          rw [hcc] at hs4 hcb ⊢
          have q8 : IntKind.i64.wrap ((cc : Int) + (u : Int)) = ((cc + u : Nat) : Int) := by rw [IntWalk.i64_in _ (by omega)]; omega
          have S4 := Lib.hid hs4
          clear hu hcc hs4
          go_wp2_with (go_at_call 40; refine (BT.out _).mono ?_; rintro e w4 ⟨rfl, rfl⟩)
          go_round
          case rel => exact ⟨c + 1, by go_num, by omega, by rw [S4.out]; first | rfl | simp, by rw [S4.out]; omega⟩
          case measure => simp [intOf]; omega
        · obtain rfl : c = n := by omega
          obtain ⟨cn, hcn⟩ : ∃ x, cntN s c = x := ⟨_, rfl⟩
          rw [hcn] at hcb ⊢
          have HCN := Lib.hid hcn
          clear hcn
          by_cases hk : cn = k
          · have t1 : ((cn : Int) == (k : Int)) = true := by simp [hk]
            have NS := Lib.hid (NS.out s _ HM.out (by omega) (by rw [HCN.out]; exact hk))
            have HK := Lib.hid hk
            clear hk
            obtain ⟨tt, htt⟩ : ∃ t, smI xss s c c = t := ⟨_, rfl⟩
            rw [htt] at NS
            have HTT := Lib.hid htt
            clear htt
            by_cases hb : l < 0
            · have d1 : decide (l < 0) = true := by simpa using hb
              have S5 := Lib.hid (show stC xss c k (b, l) s = ((s : Int), tt) by unfold stC; rw [if_pos ⟨by rw [HCN.out, HK.out], .inl (HSA.out.2 hb)⟩, HTT.out])
              go_wp2_with (go_at_call 41; refine NS.out.mono ?_; rintro e w5 ⟨rfl, rfl⟩)
              go_round
              case rel => exact ⟨s + 1, by go_num, by omega, by omega, by rw [HST.out, HS.out, S5.out], by rw [HST.out, HS.out, S5.out]⟩
              case measure => simp [intOf]; omega
            · have d1 : decide (l < 0) = false := by simpa using hb
              have NB := Lib.hid (fun h => hb (HSA.out.1 h))
              by_cases hl : tt < l
              · have d2 : decide (tt < l) = true := by simpa using hl
                have S5 := Lib.hid (show stC xss c k (b, l) s = ((s : Int), tt) by unfold stC; rw [if_pos ⟨by rw [HCN.out, HK.out], .inr (by rw [HTT.out]; exact hl)⟩, HTT.out])
                go_wp2_with (go_at_call 41; refine NS.out.mono ?_; rintro e w5 ⟨rfl, rfl⟩)
                go_round
                case rel => exact ⟨s + 1, by go_num, by omega, by omega, by rw [HST.out, HS.out, S5.out], by rw [HST.out, HS.out, S5.out]⟩
                case measure => simp [intOf]; omega
              · have d2 : decide (tt < l) = false := by simpa using hl
                have S5 := Lib.hid (show stC xss c k (b, l) s = (b, l) by unfold stC; rw [HTT.out]; exact if_neg fun hh => hh.2.elim NB.out hl)
                clear hb hl
                go_wp2_with (go_at_call 41; refine NS.out.mono ?_; rintro e w5 ⟨rfl, rfl⟩)
                go_round
                case rel => exact ⟨s + 1, by go_num, by omega, by omega, by rw [HST.out, HS.out, S5.out], by rw [HST.out, HS.out, S5.out]⟩
                case measure => simp [intOf]; omega
          · have t1 : ((cn : Int) == (k : Int)) = false := by rw [beq_eq_false_iff_ne]; omega
            have S5 := Lib.hid (show stC xss c k (b, l) s = (b, l) by unfold stC; exact if_neg fun hh => hk (by rw [← HCN.out]; exact hh.1))
            clear hk
            go_wp2_with fail
            go_round
            case rel => exact ⟨s + 1, by go_num, by omega, by omega, by rw [HST.out, HS.out, S5.out], by rw [HST.out, HS.out, S5.out]⟩
            case measure => simp [intOf]; omega
    · have e : s - 1 = D := by omega
      rw [e]
      obtain ⟨st, hst⟩ : ∃ st, scC xss n k D = st := ⟨_, rfl⟩
      rw [hst]
      obtain ⟨b, l⟩ := st
      have HE := Lib.hid hst
      clear hst e
      go_wp2_with (go_at_call 39; refine (PW.out _).mono ?_; rintro e w3 ⟨rfl, rfl⟩)
      go_ret2
      exact ⟨by rw [HE.out]; rfl, HB1.out⟩

set_option maxHeartbeats 1000000 in
theorem scenters_anyC (g cg : Nat) (H Cp : Nat → Nat) (xss : List (List Int)) (k : Int) (w : World) (h : MatC w g H Cp xss) (hm : xss.length ≤ 1048576) :
    Calls Try.prog 11 #[.slice (some ⟨g, 0, none⟩) xss.length cg, .int .i64 k] w fun e w' => e = .returned (.tuple #[.int .i64 (cenV xss k).1, .int .i64 (cenV xss k).2]) ∧ Below w.heap.size w w' := by
  cases hv : gpB xss with
  | false =>
    have CV := Lib.hid (svalidGaps_anyC g cg H Cp xss w h hm)
    rw [cenV_bad (k := k) (by rw [hv]; rfl)]
    rw [hv] at CV
    clear h hv
    go_enter Try.func11, Try.ntmps11
    go_wp2_with (go_at_call 37; refine CV.out.mono ?_; rintro e w1 ⟨rfl, hb1⟩)
    go_ret2
    exact ⟨rfl, hb1⟩
  | true =>
    cases hi : inB k 1 xss.length with
    | false =>
      have CV := Lib.hid (svalidGaps_anyC g cg H Cp xss w h hm)
      rw [cenV_bad (k := k) (by rw [hi, Bool.and_false])]
      rw [hv] at CV
      have HI := Lib.hid hi
      clear h hv hi
      go_enter Try.func11, Try.ntmps11
      go_wp2_with (first
        | (go_at_call 37; refine CV.out.mono ?_; rintro e w1 ⟨rfl, hb1⟩)
        | (go_at_call 38; refine (inRange_any _ _ _ _).mono ?_; rintro e w2 ⟨rfl, rfl⟩; rw [HI.out]))
      go_ret2
      exact ⟨rfl, hb1⟩
    | true =>
      have hk := inB_iff.1 hi
      obtain ⟨m, rfl⟩ : ∃ m : Nat, k = (m : Int) := ⟨k.toNat, by omega⟩
      have e : cenV xss (m : Int) = scC xss xss.length m (2 ^ xss.length - 1) := by unfold cenV; rw [hv, hi]; rfl
      rw [e]
      exact scenters_good g cg xss.length m H Cp xss w h hv rfl (by omega) (by omega)

end Go.Proofs.Ytclfjnoedcimiaa
