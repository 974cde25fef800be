/- spec.FalseShare. -/
import Derived.Test.YtjkadlmlkcanpaaSStep
import Derived.Test.YtjkadlmlkcanpaaUpP
import Derived.Deep.DeepCutAuto
namespace Go.Proofs.Ytjkadlmlkcanpaa
open Go.RowKit

set_option maxHeartbeats 4000000 in
theorem sfalseShare_any (b o c : Nat) (xs : List Int) (w : World) (h : RowI w b o xs) (hvb : ovB xs = true) (hm : xs.length ≤ 1099511627776) :
    Calls Try.prog 21 #[.slice (some ⟨b, o, none⟩) xs.length c] w
      fun e w' => ∃ g cap, e = .returned (.slice (some ⟨g, 0, none⟩) xs.length cap) ∧ w.heap.size ≤ g ∧ Blk w' g 3 (ic (tabI (fun i => suM (shVal xs.length) xs i xs.length) xs.length)) ∧ Below w.heap.size w w' := by
  have hv := ov_of hvb
  have hn0 := hv.n0
  have hn6 := hv.n6
  have HV := Lib.hid hv
  have HVB := Lib.hid hvb
  have H := Lib.hid h
  clear h hv hvb
  go_enter Try.func21, Try.ntmps21
  go_wp2_with (first
    | (go_at_call 41; refine (svalidOdds_any b o c xs _ H.out hm).mono ?_; rintro e w0 ⟨rfl, rfl⟩; rw [HVB.out])
    | (go_at_call 48; refine (places_any b o c xs _ H.out (by omega) hn0).mono ?_; rintro e w1 ⟨g3, c3, rfl, hg3, hr3, hb1⟩; have hz1 := hb1.size))
  have HR := Lib.hid hr3
  have HB1 := Lib.hid hb1
  have l3 := hr3.blk
  obtain ⟨P, hP⟩ : ∃ P : Nat → Nat, (fun k => plc xs k xs.length) = P := ⟨_, rfl⟩
  have hPk : ∀ k, plc xs k xs.length = P k := fun k => by rw [← hP]
  have hPl : ∀ k, k < xs.length → P k < xs.length := fun k hk => by rw [← hPk]; exact plc_lt xs _ k hk
  have hrP : RowI w1 g3 0 (tabI (fun k => (P k : Int)) xs.length) := by
    have e : (fun i => ((plc xs i xs.length : Nat) : Int)) = fun k => (P k : Int) := by funext k; rw [hPk]
    rw [e] at hr3
    exact hr3
  have HRP := Lib.hid hrP
  have HPK := Lib.hid hPk
  have HPL := Lib.hid hPl
  clear hr3 hb1 hP hPk hPl hrP HR
  go_loopw [4, 5] (fun v4 v5 wr => ∃ i : Nat, i ≤ xs.length ∧ v5 = .int .i64 i ∧ OwnI wr w1.heap.size v4 i (tabI (fun i => suM (shVal xs.length) xs i xs.length) i) ∧ Below w1.heap.size w1 wr) (fun _ v5 _ => xs.length - (intOf v5).toNat)
  case atStart => exact ⟨0, Nat.zero_le _, rfl, OwnI.empty _ _ (Nat.le_refl _) _ rfl, by (repeat' (first | (with_reducible exact Below.refl _ _) | (with_reducible assumption) | (with_reducible refine Below.drewN ?_ _) | (with_reducible refine Below.alloc ?_ ?_ _) | (with_reducible refine Below.drew ?_) | (with_reducible refine Below.setCell ?_ ?_ _) | (with_reducible refine Below.trans ?_ (Below.mono (by assumption) ?_)) | go_size | (with_reducible refine Nat.le_trans ?_ (Below.size (by assumption)))))⟩
  case round =>
    obtain ⟨i, hi, rfl, hown, hb⟩ := hrel
    have HO := Lib.hid hown
    clear hown
    have hz := hb.size
    by_cases hlt : i < xs.length
    · obtain ⟨wo, rfl⟩ : ∃ wo : World, wo = wr := ⟨_, rfl⟩
      have hpi := HPL.out i hlt
      have hbo : Below w.heap.size w wo := HB1.out.trans (hb.mono hz1)
      go_wp2_with fail
      go_loopw [6, 7] (fun v6 v7 wr => ∃ k : Nat, k ≤ xs.length ∧ v7 = .int .i64 k ∧ v6 = .int .i64 (suM (shVal xs.length) xs i k) ∧ ∃ n, wr = wo.drewN n) (fun _ v7 _ => xs.length - (intOf v7).toNat)
      case atStart => exact ⟨0, Nat.zero_le _, rfl, rfl, 0, rfl⟩
      case round =>
        obtain ⟨k, hk, rfl, rfl, n, rfl⟩ := hrel
        by_cases hkl : k < xs.length
        · have c1 := (H.out.below hbo).cell k hkl
          have c2 := (HRP.out.below hb).cell k (by rw [tabI_length]; exact hkl)
          have c3 := (HRP.out.below hb).cell i (by rw [tabI_length]; exact hlt)
          rw [gi_tabI hkl, Nat.zero_add] at c2
          rw [gi_tabI hlt, Nat.zero_add] at c3
          have hpk := HPL.out k hkl
          have bx := HV.out.x k hkl
          have hst : suM (shVal xs.length) xs i (k + 1) = if P i ≤ P k then min (suM (shVal xs.length) xs i k) (shVal xs.length (gi xs k) (P k)) else suM (shVal xs.length) xs i k := by
            simp only [suM, HPK.out]
          have bv := shVal_in bx hn6 hpk
          obtain ⟨pk, hpke⟩ : ∃ pk, P k = pk := ⟨_, rfl⟩
          obtain ⟨pi, hpie⟩ : ∃ pi, P i = pi := ⟨_, rfl⟩
          obtain ⟨x, hx⟩ : ∃ x, gi xs k = x := ⟨_, rfl⟩
          obtain ⟨s, hs⟩ : ∃ s, suM (shVal xs.length) xs i k = s := ⟨_, rfl⟩
          rw [hpke] at c2 hpk hst bv
          rw [hpie] at c3 hpi hst
          rw [hx] at c1 bx hst bv
          rw [hs] at hst ⊢
          have bp := prod6 bx (y := (xs.length : Int) - (pk : Int)) (by omega)
          have bn := prod6 bx (y := (xs.length : Int)) (by omega)
          obtain ⟨v, hv⟩ : ∃ v, shVal xs.length x pk = v := ⟨_, rfl⟩
          rw [hv] at hst bv
          have q1 : IntKind.i64.wrap (x * (xs.length : Int)) = x * (xs.length : Int) := IntWalk.i64_in _ (by omega)
          have q2 : IntKind.i64.wrap (x * (xs.length : Int) + (pk : Int)) = x * (xs.length : Int) + (pk : Int) := IntWalk.i64_in _ (by omega)
          have q3 : IntKind.i64.wrap ((pk : Int) + 1) = (pk : Int) + 1 := IntWalk.i64_in _ (by omega)
          have q4 : (pk : Int) + 1 ≠ 0 := by omega
          have q5 : IntKind.i64.wrap ((x * (xs.length : Int) + (pk : Int)).tdiv ((pk : Int) + 1)) = v := by
            show IntKind.i64.wrap (shVal xs.length x pk) = v
            rw [hv, IntWalk.i64_in _ (by omega)]
          obtain ⟨mx, hmx⟩ : ∃ mx, (if v < s then v else s) = mx := ⟨_, rfl⟩
          have hst2 : suM (shVal xs.length) xs i (k + 1) = if pi ≤ pk then mx else s := by rw [hst, ← hmx]; split <;> (try rfl); split <;> omega
          have HST := Lib.hid hst2
          obtain ⟨t, ht⟩ : ∃ t, decide ((pi : Int) ≤ (pk : Int)) = t := ⟨_, rfl⟩
          have ht2 : decide (pi ≤ pk) = t := by rw [← ht]; by_cases h : pi ≤ pk <;> simp [h] <;> omega
          have HT := Lib.hid ht2
          clear hst hst2 hpke hpie hx hs bp bn bx bv
          cases t with
          | true =>
            go_wp2_with fail
            go_quiet (fail)
            go_upto_region 13 with fail
            go_quiet (fail)
            go_wp2_with fail
            go_roundw
            case rel => exact ⟨k + 1, by omega, by go_num, by rw [HST.out, if_pos (of_decide_eq_true HT.out)], _, rfl⟩
            case measure => simp [intOf]; omega
          | false =>
            go_wp2_with fail
            go_quiet (fail)
            go_wp2_with fail
            go_roundw
            case rel => exact ⟨k + 1, by omega, by go_num, by rw [HST.out, if_neg (of_decide_eq_false HT.out)], n + nq, by simp⟩
            case measure => simp [intOf]; omega
        · have hkn : k = xs.length := by omega
          have HK := Lib.hid hkn
          have hbw : Below w1.heap.size w1 (wo.drewN n) := Below.drewN hb n
          have ho := HO.out.below (Below.drewN (Below.refl wo.heap.size wo) n)
          have HOO := Lib.hid ho
          obtain ⟨s, hs⟩ : ∃ s, suM (shVal xs.length) xs i k = s := ⟨_, rfl⟩
          rw [hs]
          have HM := Lib.hid hs
          have hzw := hbw.size
          clear hkn ho hs HO
          go_wp2_with (at_builtin; refine wpList_app1 rfl (.tmp 55) (.tmp 57) 22 rfl w1.heap.size 3 (.int .i64 0) 1 8 Try.underlying22 infoI rfl (by decide) (by decide) _ _ _ rfl (World.ownsRow.alloc HOO.out _) ⟨(wo.drewN n).heap.size, 0, none⟩ 1 [.int .i64 s] rfl rfl (cell_one_new _ _ _) (by simp [Value.oneCell']) (by omega) (by simp at hzw ⊢; omega) ?_; intro g2 cap2 w4 o1 o2 o3)
          go_roundw
          case rel =>
            have e : suM (shVal xs.length) xs i xs.length = s := by have hmm := HM.out; rw [HK.out] at hmm; exact hmm
            exact ⟨i + 1, by omega, by go_num, by rw [tabI_succ, e]; exact OwnI.app o1, (hbw.alloc hzw _).trans (Below.app (World.ownsRow.alloc HOO.out _) (by simp at hzw ⊢; omega) o2)⟩
          case measure => simp [intOf]; omega
    · have hin : i = xs.length := by omega
      have HI := Lib.hid hin
      have ho := HO.out
      rw [hin] at ho
      obtain ⟨g, cap, rfl, hg⟩ := ho.shape (by omega)
      rw [hin]
      have HOO := Lib.hid ho
      clear hin ho HO
      go_wp2_with fail
      go_ret
      exact ⟨g, cap, rfl, by omega, (Blk.of_own HOO.out).1, HB1.out.trans (hb.mono hz1)⟩

set_option maxHeartbeats 1000000 in
theorem sFalseShare_all (b o c : Nat) (xs : List Int) (w : World) (h : RowI w b o xs) (hm : xs.length ≤ 1099511627776) :
    Calls Try.prog 21 #[.slice (some ⟨b, o, none⟩) xs.length c] w
      fun e w' => ∃ v, e = .returned v ∧ Mut 3 w' w.heap.size v (suV shVal xs).length (ic (suV shVal xs)) ∧ Below w.heap.size w w' := by
  have H := Lib.hid h
  clear h
  cases hv : ovB xs with
  | true =>
    have e : suV shVal xs = tabI (fun i => suM (shVal xs.length) xs i xs.length) xs.length := by simp [suV, hv]
    rw [e, tabI_length]
    clear e
    exact (sfalseShare_any b o c xs w H.out hv hm).mono fun e w' ⟨g, cap, h1, h2, h3, h4⟩ => ⟨_, h1, .inr ⟨g, cap, rfl, h2, h3⟩, h4⟩
  | false =>
    have e : suV shVal xs = [] := by simp [suV, hv]
    rw [e]
    clear e
    go_enter Try.func21, Try.ntmps21
    go_wp2_with (go_at_call 41; refine (svalidOdds_any b o c xs _ H.out hm).mono ?_; rintro e w1 ⟨rfl, rfl⟩)
    go_ret
    exact ⟨_, rfl, .inl ⟨rfl, rfl, rfl⟩, Below.refl _ _⟩

end Go.Proofs.Ytjkadlmlkcanpaa
