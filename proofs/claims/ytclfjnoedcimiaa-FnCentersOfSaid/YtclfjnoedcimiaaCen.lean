/- impl.CentersOf and spec.CentersOf. -/
import Derived.Test.YtclfjnoedcimiaaCenP
import Derived.Test.YtclfjnoedcimiaaGapsI
import Derived.Test.YtclfjnoedcimiaaBits
namespace Go.Proofs.Ytclfjnoedcimiaa
open Go.RowKit

theorem and_one' (a : Nat) (ha : a < 4611686018427387904) : bits .and .i64 (a : Int) 1 = ((a % 2 : Nat) : Int) := by
  have e : (BitVec.ofInt 64 (a : Int) &&& BitVec.ofInt 64 ((1 : Nat) : Int)).toNat = a &&& 1 := by
    rw [BitVec.toNat_and, BitVec.ofInt_natCast, BitVec.ofInt_natCast, BitVec.toNat_ofNat, BitVec.toNat_ofNat, Nat.mod_eq_of_lt (by omega), Nat.mod_eq_of_lt (by omega)]
  have e2 : bits .and .i64 (a : Int) 1 = IntKind.i64.wrap ((a &&& 1 : Nat) : Int) := by
    rw [← e]
    rfl
  rw [e2, Nat.and_one_is_mod, IntWalk.i64_in _ (by omega)]
theorem pow_six {n : Nat} (h : n ≤ 6) : 1 ≤ 2 ^ n ∧ 2 ^ n ≤ 64 := ⟨Nat.pow_pos (by decide), Nat.pow_le_pow_right (by decide) h⟩

set_option maxHeartbeats 4000000 in
theorem centers_good (g cg n k : Nat) (H Cp : Nat → Nat) (xss : List (List Int)) (w : World) (h : MatC w g H Cp xss) (hv : gpB xss = true) (hn : xss.length = n) (h1 : 1 ≤ k) (h2 : k ≤ n) :
    Calls Try.prog 10 #[.slice (some ⟨g, 0, none⟩) n cg, .int .i64 k] w fun e w' => e = .returned (.tuple #[.int .i64 (scC xss n k (2 ^ n - 1)).1, .int .i64 (scC xss n k (2 ^ n - 1)).2]) ∧ Below w.heap.size w w' := by
  have hg := gp_of hv
  have n6 := hg.n6
  have HM := Lib.hid h
  have CV := Lib.hid (validGaps_anyC g cg H Cp xss w h (by omega))
  have HI := Lib.hid (inB_iff.2 (show (1 : Int) ≤ (k : Int) ∧ (k : Int) ≤ (n : Int) by omega))
  have LN := Lib.hid (fun a (ha : a < n) => (hg.len a (by omega)).trans hn)
  have GI := Lib.hid (fun a b (ha : a < n) (hb : b < n) => gm_in hg (a := a) (b := b) (by omega) (by omega))
  have NI := Lib.hid (fun s a d (ha : a < n) (hd : d ≤ n) => nrI_in hg (s := s) (a := a) (by omega) d (by omega))
  have SI := Lib.hid (fun s m (hm : m ≤ n) => smI_in hg s m (by omega))
  have HC := Lib.hid (fun m => scC_is hg k m)
  rw [hn] at CV n6 SI HC
  rw [hv] at CV
  obtain ⟨p1, p2⟩ := pow_six n6
  obtain ⟨P, hP⟩ : ∃ P, 2 ^ n = P := ⟨_, rfl⟩
  rw [hP] at p1 p2 ⊢
  obtain ⟨D, hD⟩ : ∃ D, P - 1 = D := ⟨_, rfl⟩
  rw [hD]
  have hPD1 : P ≤ D + 1 := by omega
  have hPD2 : D + 1 ≤ P := by omega
  have HP := Lib.hid hP
  have HN := Lib.hid hn
  have hpw : (2 : Int) ^ n = (P : Int) := by rw [← hP]; simp
  have hpw2 : IntKind.i64.wrap (P : Int) = (P : Int) := IntWalk.i64_in _ (by omega)
  clear h hg hP hD hn p1 hv
  go_enter Try.func10, Try.ntmps10
  go_upto_region 4 with (first
    | (go_at_call 16; refine CV.out.mono ?_; rintro e w1 ⟨rfl, hb1⟩)
    | (go_at_call 35; refine (in_any _ _ _ _).mono ?_; rintro e w2 ⟨rfl, rfl⟩; rw [HI.out]))
  have z1 := hb1.size
  have HB1 := Lib.hid hb1
  have HM := Lib.hid (HM.out.below hb1)
  clear hb1
  go_wp2_with fail
  go_loop [6, 7, 8] (fun v6 v7 v8 => ∃ s : Nat, v8 = .int .i64 s ∧ 1 ≤ s ∧ s ≤ P ∧ v6 = .int .i64 (scC xss n k (s - 1)).1 ∧ v7 = .int .i64 (scC xss n k (s - 1)).2) (fun _ _ v8 => P - (intOf v8).toNat)
  case atStart => exact ⟨1, rfl, by omega, by omega, rfl, rfl⟩
  case round =>
    obtain ⟨s, rfl, hs1, hs2, rfl, rfl⟩ := hrel
    by_cases hsl : s < P
    · have q1 : IntKind.i64.wrap ((s : Int) + 1) = ((s + 1 : Nat) : Int) := by rw [IntWalk.i64_in _ (by omega)]; omega
      have q2 : (s : Int) < (P : Int) := by omega
      have q3 : IntKind.u64.wrap (s : Int) = (s : Int) := IntWalk.u64_in _ (by omega)
      have c6 := cnt6 n (by omega) s (by rw [HP.out]; exact hsl)
      have hst : scC xss n k (s + 1 - 1) = stC xss n k (scC xss n k (s - 1)) s := by
        obtain ⟨s', rfl⟩ : ∃ s', s = s' + 1 := ⟨s - 1, by omega⟩
        rfl
      have HST := Lib.hid hst
      clear hst
      obtain ⟨st, hst⟩ : ∃ st, scC xss n k (s - 1) = st := ⟨_, rfl⟩
      rw [hst]
      have HS := Lib.hid hst
      obtain ⟨cn, hcn⟩ : ∃ cn, cntN s n = cn := ⟨_, rfl⟩
      rw [hcn] at c6
      have OC := Lib.hid (fun w => ones_any s w (by omega))
      rw [c6] at OC
      have HCN := Lib.hid hcn
      clear hst hcn c6
      obtain ⟨b, l⟩ := st
      by_cases hk : cn = k
      · have t1 : ((cn : Int) != (k : Int)) = false := by simp [hk]
        have HK := Lib.hid hk
        clear hk
        go_wp2_with (go_at_call 36; refine (OC.out _).mono ?_; rintro e w3 ⟨rfl, rfl⟩)
        go_loop [9, 39] (fun v9 v39 => ∃ a : Nat, v39 = .int .i64 a ∧ a ≤ n ∧ v9 = .int .i64 (smI xss s n a)) (fun _ v39 => n - (intOf v39).toNat)
        case atStart => exact ⟨0, rfl, by omega, rfl⟩
        case round =>
          obtain ⟨a, rfl, ha, rfl⟩ := hrel
          have bs := SI.out s a ha
          have hs3 : smI xss s n (a + 1) = smI xss s n a + nrI xss s a n := rfl
          have HS3 := Lib.hid hs3
          clear hs3
          by_cases hla : a < n
          · obtain ⟨y1, r1⟩ := HM.out.row (show a < xss.length by rw [HN.out]; exact hla)
            rw [LN.out a hla] at y1
            have R1 := Lib.hid r1
            clear r1
            obtain ⟨tt, htt⟩ : ∃ t, smI xss s n a = t := ⟨_, rfl⟩
            rw [htt] at bs HS3 ⊢
            clear htt
            go_wp2_with fail
            go_loop [12, 45] (fun v12 v45 => ∃ c : Nat, v45 = .int .i64 c ∧ c ≤ n ∧ v12 = .int .i64 (nrI xss s a c)) (fun _ v45 => n - (intOf v45).toNat)
            case atStart => exact ⟨0, rfl, by omega, rfl⟩
            case round =>
              obtain ⟨c, rfl, hc, rfl⟩ := hrel
              have bn := NI.out s a c hla hc
              by_cases hlc : c < n
              · have x1 := R1.out.cell c (by rw [LN.out a hla]; exact hlc)
                rw [Nat.zero_add] at x1
                have e0 : gi (gl xss a) c = gm xss a c := rfl
                rw [e0] at x1
                have hs4 : nrI xss s a (c + 1) = if s / 2 ^ c % 2 = 1 then (if gm xss a c < nrI xss s a c then gm xss a c else nrI xss s a c) else nrI xss s a c := rfl
                obtain ⟨x, hx⟩ : ∃ x, gm xss a c = x := ⟨_, rfl⟩
                obtain ⟨nn, hnn⟩ : ∃ x, nrI xss s a c = x := ⟨_, rfl⟩
                rw [hx] at x1 hs4
                rw [hnn] at hs4 bn ⊢
                have hdle : s / 2 ^ c ≤ s := Nat.div_le_self _ _
                have e1 : (s : Int) / 2 ^ c = ((s / 2 ^ c : Nat) : Int) := by simp
                obtain ⟨u, hu⟩ : ∃ u, s / 2 ^ c = u := ⟨_, rfl⟩
                rw [hu] at e1 hs4 hdle
                have e2 := and_one' u (by omega)
                obtain ⟨mm, hmm⟩ : ∃ m, (if x < nn then x else nn) = m := ⟨_, rfl⟩
                rw [hmm] at hs4
                have m2 : min nn x = mm := by rw [← hmm]; split <;> omega
                clear hx hnn hu e0
                by_cases t : u % 2 = 1
                · have t2 : (((u % 2 : Nat) : Int) == 1) = true := by rw [t]; rfl
                  rw [if_pos t] at hs4
                  have S4 := Lib.hid hs4
                  clear hs4
                  go_wp2_with fail
                  go_round
                  case rel => exact ⟨c + 1, by go_num, by omega, by rw [S4.out]⟩
                  case measure => simp [intOf]; omega
                · have t2 : (((u % 2 : Nat) : Int) == 1) = false := by rw [beq_eq_false_iff_ne]; omega
                  rw [if_neg t] at hs4
                  have S4 := Lib.hid hs4
                  clear hs4 t
                  go_wp2_with fail
                  go_round
                  case rel => exact ⟨c + 1, by go_num, by omega, by rw [S4.out]⟩
                  case measure => simp [intOf]; omega
              · obtain rfl : c = n := by omega
                obtain ⟨nn, hnn⟩ : ∃ x, nrI xss s a c = x := ⟨_, rfl⟩
                rw [hnn] at HS3 bn ⊢
                have q9 : IntKind.i64.wrap (tt + nn) = tt + nn := IntWalk.i64_in _ (by omega)
                clear hnn
                go_wp2_with fail
                go_round
                case rel => exact ⟨a + 1, by go_num, by omega, by rw [HS3.out]⟩
                case measure => simp [intOf]; omega
          · obtain rfl : a = n := by omega
            obtain ⟨tt, htt⟩ : ∃ t, smI xss s a a = t := ⟨_, rfl⟩
            have HTT := Lib.hid htt
            rw [htt] at bs ⊢
            clear htt HS3
            by_cases hb : b < 0
            · have d1 : decide (b < 0) = true := by simpa using hb
              have S5 := Lib.hid (show stC xss a k (b, l) s = ((s : Int), tt) by unfold stC; rw [if_pos ⟨by rw [HCN.out, HK.out], .inl hb⟩, HTT.out])
              go_wp2_with fail
              go_round
              case rel => exact ⟨s + 1, by go_num, by omega, by omega, by rw [HST.out, HS.out, S5.out], by rw [HST.out, HS.out, S5.out]⟩
              case measure => simp [intOf]; omega
            · have d1 : decide (b < 0) = false := by simpa using hb
              by_cases hl : tt < l
              · have d2 : decide (tt < l) = true := by simpa using hl
                have S5 := Lib.hid (show stC xss a k (b, l) s = ((s : Int), tt) by unfold stC; rw [if_pos ⟨by rw [HCN.out, HK.out], .inr (by rw [HTT.out]; exact hl)⟩, HTT.out])
                go_wp2_with fail
                go_round
                case rel => exact ⟨s + 1, by go_num, by omega, by omega, by rw [HST.out, HS.out, S5.out], by rw [HST.out, HS.out, S5.out]⟩
                case measure => simp [intOf]; omega
              · have d2 : decide (tt < l) = false := by simpa using hl
                have S5 := Lib.hid (show stC xss a k (b, l) s = (b, l) by unfold stC; rw [HTT.out]; exact if_neg fun hh => hh.2.elim hb hl)
                clear hb hl
                go_wp2_with fail
                go_round
                case rel => exact ⟨s + 1, by go_num, by omega, by omega, by rw [HST.out, HS.out, S5.out], by rw [HST.out, HS.out, S5.out]⟩
                case measure => simp [intOf]; omega
      · have t1 : ((cn : Int) != (k : Int)) = true := by rw [bne_iff_ne]; omega
        have S5 := Lib.hid (show stC xss n k (b, l) s = (b, l) by unfold stC; exact if_neg fun hh => hk (by rw [← HCN.out]; exact hh.1))
        clear hk
        go_wp2_with (go_at_call 36; refine (OC.out _).mono ?_; rintro e w3 ⟨rfl, rfl⟩)
        go_round
        case rel => exact ⟨s + 1, by go_num, by omega, by omega, by rw [HST.out, HS.out, S5.out], by rw [HST.out, HS.out, S5.out]⟩
        case measure => simp [intOf]; omega
    · have e : s - 1 = D := by omega
      rw [e]
      obtain ⟨st, hst⟩ : ∃ st, scC xss n k D = st := ⟨_, rfl⟩
      rw [hst]
      obtain ⟨b, l⟩ := st
      have HE := Lib.hid hst
      clear hst e
      go_wp2_with fail
      go_ret2
      exact ⟨by rw [HE.out]; rfl, HB1.out⟩

set_option maxHeartbeats 1000000 in
theorem centers_anyC (g cg : Nat) (H Cp : Nat → Nat) (xss : List (List Int)) (k : Int) (w : World) (h : MatC w g H Cp xss) (hm : xss.length ≤ 1048576) :
    Calls Try.prog 10 #[.slice (some ⟨g, 0, none⟩) xss.length cg, .int .i64 k] w fun e w' => e = .returned (.tuple #[.int .i64 (cenV xss k).1, .int .i64 (cenV xss k).2]) ∧ Below w.heap.size w w' := by
  cases hv : gpB xss with
  | false =>
    have CV := Lib.hid (validGaps_anyC g cg H Cp xss w h hm)
    rw [cenV_bad (k := k) (by rw [hv]; rfl)]
    rw [hv] at CV
    clear h hv
    go_enter Try.func10, Try.ntmps10
    go_wp2_with (go_at_call 16; refine CV.out.mono ?_; rintro e w1 ⟨rfl, hb1⟩)
    go_ret2
    exact ⟨rfl, hb1⟩
  | true =>
    cases hi : inB k 1 xss.length with
    | false =>
      have CV := Lib.hid (validGaps_anyC g cg H Cp xss w h hm)
      rw [cenV_bad (k := k) (by rw [hi, Bool.and_false])]
      rw [hv] at CV
      have HI := Lib.hid hi
      clear h hv hi
      go_enter Try.func10, Try.ntmps10
      go_wp2_with (first
        | (go_at_call 16; refine CV.out.mono ?_; rintro e w1 ⟨rfl, hb1⟩)
        | (go_at_call 35; refine (in_any _ _ _ _).mono ?_; rintro e w2 ⟨rfl, rfl⟩; rw [HI.out]))
      go_ret2
      exact ⟨rfl, hb1⟩
    | true =>
      have hk := inB_iff.1 hi
      obtain ⟨m, rfl⟩ : ∃ m : Nat, k = (m : Int) := ⟨k.toNat, by omega⟩
      have e : cenV xss (m : Int) = scC xss xss.length m (2 ^ xss.length - 1) := by unfold cenV; rw [hv, hi]; rfl
      rw [e]
      exact centers_good g cg xss.length m H Cp xss w h hv rfl (by omega) (by omega)

end Go.Proofs.Ytclfjnoedcimiaa
