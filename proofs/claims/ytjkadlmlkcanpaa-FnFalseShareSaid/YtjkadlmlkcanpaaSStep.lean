/- spec.places and spec.StepDown. -/
import Derived.Test.YtjkadlmlkcanpaaStepP
import Derived.Deep.DeepCutAuto
namespace Go.Proofs.Ytjkadlmlkcanpaa
open Go.RowKit

set_option maxHeartbeats 2000000 in
theorem places_any (b o c : Nat) (xs : List Int) (w : World) (h : RowI w b o xs) (hl : xs.length ≤ 1000) (hn0 : 1 ≤ xs.length) :
    Calls Try.prog 48 #[.slice (some ⟨b, o, none⟩) xs.length c] w
      fun e w' => ∃ g cap, e = .returned (.slice (some ⟨g, 0, none⟩) xs.length cap) ∧ w.heap.size ≤ g ∧ RowI w' g 0 (tabI (fun i => (plc xs i xs.length : Int)) xs.length) ∧ Below w.heap.size w w' := by
  have H := Lib.hid h
  clear h
  go_enter Try.func48, Try.ntmps48
  go_wp2_with fail
  go_loopw [3, 4] (fun v3 v4 wr => ∃ i : Nat, i ≤ xs.length ∧ v4 = .int .i64 i ∧ OwnI wr w.heap.size v3 i (tabI (fun i => (plc xs i xs.length : Int)) i) ∧ Below w.heap.size w wr) (fun _ v4 _ => xs.length - (intOf v4).toNat)
  case atStart => exact ⟨0, Nat.zero_le _, rfl, OwnI.empty _ _ (Nat.le_refl _) _ rfl, by (repeat' (first | (with_reducible exact Below.refl _ _) | (with_reducible assumption) | (with_reducible refine Below.drewN ?_ _) | (with_reducible refine Below.alloc ?_ ?_ _) | (with_reducible refine Below.drew ?_) | (with_reducible refine Below.setCell ?_ ?_ _) | (with_reducible refine Below.trans ?_ (Below.mono (by assumption) ?_)) | go_size | (with_reducible refine Nat.le_trans ?_ (Below.size (by assumption)))))⟩
  case round =>
    obtain ⟨i, hi, rfl, hown, hb⟩ := hrel
    have HO := Lib.hid hown
    clear hown
    have hz := hb.size
    by_cases hlt : i < xs.length
    · obtain ⟨wo, rfl⟩ : ∃ wo : World, wo = wr := ⟨_, rfl⟩
      go_wp2_with fail
      go_loopw [5, 6] (fun v5 v6 wr => ∃ k : Nat, k ≤ xs.length ∧ v6 = .int .i64 k ∧ v5 = .int .i64 ((plc xs i k : Nat) : Int) ∧ plc xs i k ≤ k ∧ ∃ n, wr = wo.drewN n) (fun _ v6 _ => xs.length - (intOf v6).toNat)
      case atStart => exact ⟨0, Nat.zero_le _, rfl, rfl, Nat.le_refl _, 0, rfl⟩
      case round =>
        obtain ⟨k, hk, rfl, rfl, hpk, n, rfl⟩ := hrel
        by_cases hkl : k < xs.length
        · have c1 := (H.out.below hb).cell k hkl
          have c2 := (H.out.below hb).cell i hlt
          have hst : plc xs i (k + 1) = plc xs i k + if aheadB xs i k then 1 else 0 := rfl
          obtain ⟨a, ha⟩ : ∃ a, decide (gi xs k < gi xs i) = a := ⟨_, rfl⟩
          obtain ⟨q, hq⟩ : ∃ q, (gi xs k == gi xs i) = q := ⟨_, rfl⟩
          obtain ⟨t, ht⟩ : ∃ t, decide ((k : Int) < (i : Int)) = t := ⟨_, rfl⟩
          have ht2 : decide (k < i) = t := by rw [← ht]; by_cases h : k < i <;> simp [h] <;> omega
          have hah : aheadB xs i k = (a || (q && t)) := by
            unfold aheadB
            rw [ha, ht2, ← hq]
            rfl
          rw [hah] at hst
          obtain ⟨m, hm⟩ : ∃ m, plc xs i k = m := ⟨_, rfl⟩
          rw [hm] at hst hpk ⊢
          have HST := Lib.hid hst
          obtain ⟨x, hx⟩ : ∃ x, gi xs k = x := ⟨_, rfl⟩
          obtain ⟨y, hy⟩ : ∃ y, gi xs i = y := ⟨_, rfl⟩
          rw [hx] at c1 ha hq
          rw [hy] at c2 ha hq
          clear hst hah hm hx hy
          cases a <;> cases q <;> cases t
          all_goals
            go_wp2_with fail
            go_quiet (fail)
            go_wp2_with fail
            go_roundw
            case rel => exact ⟨k + 1, by omega, by go_num, by rw [HST.out]; simp, by rw [HST.out]; simp; omega, n + nq, by simp⟩
            case measure => simp [intOf]; omega
        · have hkn : k = xs.length := by omega
          have HK := Lib.hid hkn
          have hbw : Below w.heap.size w (wo.drewN n) := Below.drewN hb n
          have ho := HO.out.below (Below.drewN (Below.refl wo.heap.size wo) n)
          have HOO := Lib.hid ho
          obtain ⟨m, hm⟩ : ∃ m, plc xs i k = m := ⟨_, rfl⟩
          rw [hm]
          have HM := Lib.hid hm
          clear hkn ho hm HO
          go_wp2_with (at_builtin; refine wpList_app1 rfl (.tmp 47) (.tmp 49) 22 rfl w.heap.size 3 (.int .i64 0) 1 8 Try.underlying22 infoI rfl (by decide) (by decide) _ _ _ rfl (World.ownsRow.alloc HOO.out _) ⟨(wo.drewN n).heap.size, 0, none⟩ 1 [.int .i64 (m : Int)] rfl rfl (cell_one_new _ _ _) (by simp [Value.oneCell']) (by omega) (by have := hbw.size; simp; omega) ?_; intro g2 cap2 w4 o1 o2 o3)
          have hzw := hbw.size
          go_roundw
          case rel =>
            have e : ((plc xs i xs.length : Nat) : Int) = (m : Int) := by rw [← HM.out, HK.out]
            exact ⟨i + 1, by omega, by go_num, by rw [tabI_succ, e]; exact OwnI.app o1, (hbw.alloc hzw _).trans (Below.app (World.ownsRow.alloc HOO.out _) (by simp; omega) o2)⟩
          case measure => simp [intOf]; omega
    · have hin : i = xs.length := by omega
      have HI := Lib.hid hin
      have ho := HO.out
      rw [hin] at ho
      obtain ⟨g, cap, rfl, hg⟩ := ho.shape (by omega)
      rw [hin]
      have HOO := Lib.hid ho
      clear hin ho HO
      go_wp2_with fail
      go_ret
      exact ⟨g, cap, rfl, hg, HOO.out.row, hb⟩

set_option maxHeartbeats 4000000 in
theorem sstepDown_any (b o c : Nat) (xs : List Int) (w : World) (h : RowI w b o xs) (hv : Ov xs) :
    Calls Try.prog 42 #[.slice (some ⟨b, o, none⟩) xs.length c] w
      fun e w' => ∃ g cap, e = .returned (.slice (some ⟨g, 0, none⟩) xs.length cap) ∧ w.heap.size ≤ g ∧ Blk w' g 3 (ic (tabI (fun i => min (sdM xs i xs.length) 1000) xs.length)) ∧ Below w.heap.size w w' := by
  have hn0 := hv.n0
  have hn6 := hv.n6
  have HV := Lib.hid hv
  have H := Lib.hid h
  clear h hv
  go_enter Try.func42, Try.ntmps42
  go_wp2_with (go_at_call 48; refine (places_any b o c xs _ H.out (by omega) hn0).mono ?_; rintro e w1 ⟨g3, c3, rfl, hg3, hr3, hb1⟩; have hz1 := hb1.size)
  have HR := Lib.hid hr3
  have HB1 := Lib.hid hb1
  have l3 := hr3.blk
  obtain ⟨P, hP⟩ : ∃ P : Nat → Nat, (fun k => plc xs k xs.length) = P := ⟨_, rfl⟩
  have hPk : ∀ k, plc xs k xs.length = P k := fun k => by rw [← hP]
  have hPl : ∀ k, k < xs.length → P k < xs.length := fun k hk => by rw [← hPk]; exact plc_lt xs _ k hk
  have hrP : RowI w1 g3 0 (tabI (fun k => (P k : Int)) xs.length) := by
    have e : (fun i => ((plc xs i xs.length : Nat) : Int)) = fun k => (P k : Int) := by funext k; rw [hPk]
    rw [e] at hr3
    exact hr3
  have HRP := Lib.hid hrP
  have HPK := Lib.hid hPk
  have HPL := Lib.hid hPl
  clear hr3 hb1 hP hPk hPl hrP HR
  go_loopw [4, 5] (fun v4 v5 wr => ∃ i : Nat, i ≤ xs.length ∧ v5 = .int .i64 i ∧ OwnI wr w1.heap.size v4 i (tabI (fun i => min (sdM xs i xs.length) 1000) i) ∧ Below w1.heap.size w1 wr) (fun _ v5 _ => xs.length - (intOf v5).toNat)
  case atStart => exact ⟨0, Nat.zero_le _, rfl, OwnI.empty _ _ (Nat.le_refl _) _ rfl, by (repeat' (first | (with_reducible exact Below.refl _ _) | (with_reducible assumption) | (with_reducible refine Below.drewN ?_ _) | (with_reducible refine Below.alloc ?_ ?_ _) | (with_reducible refine Below.drew ?_) | (with_reducible refine Below.setCell ?_ ?_ _) | (with_reducible refine Below.trans ?_ (Below.mono (by assumption) ?_)) | go_size | (with_reducible refine Nat.le_trans ?_ (Below.size (by assumption)))))⟩
  case round =>
    obtain ⟨i, hi, rfl, hown, hb⟩ := hrel
    have HO := Lib.hid hown
    clear hown
    have hz := hb.size
    by_cases hlt : i < xs.length
    · obtain ⟨wo, rfl⟩ : ∃ wo : World, wo = wr := ⟨_, rfl⟩
      have hpi := HPL.out i hlt
      have hbo : Below w.heap.size w wo := HB1.out.trans (hb.mono hz1)
      go_wp2_with fail
      go_loopw [6, 7] (fun v6 v7 wr => ∃ k : Nat, k ≤ xs.length ∧ v7 = .int .i64 k ∧ v6 = .int .i64 (sdM xs i k) ∧ ∃ n, wr = wo.drewN n) (fun _ v7 _ => xs.length - (intOf v7).toNat)
      case atStart => exact ⟨0, Nat.zero_le _, rfl, rfl, 0, rfl⟩
      case round =>
        obtain ⟨k, hk, rfl, rfl, n, rfl⟩ := hrel
        have h0 := sdM_nonneg (xs := xs) (i := i) k
        have h1 := sdM_bd HV.out (i := i) k hk
        by_cases hkl : k < xs.length
        · have c1 := (H.out.below hbo).cell k hkl
          have c2 := (HRP.out.below hb).cell k (by rw [tabI_length]; exact hkl)
          have c3 := (HRP.out.below hb).cell i (by rw [tabI_length]; exact hlt)
          rw [gi_tabI hkl, Nat.zero_add] at c2
          rw [gi_tabI hlt, Nat.zero_add] at c3
          have hpk := HPL.out k hkl
          have bx := HV.out.x k hkl
          have hst : sdM xs i (k + 1) = if P k ≤ P i then max (sdM xs i k) (gi xs k * ((xs.length : Int) - (P k : Int))) else sdM xs i k := by
            simp only [sdM, HPK.out]
          obtain ⟨pk, hpke⟩ : ∃ pk, P k = pk := ⟨_, rfl⟩
          obtain ⟨pi, hpie⟩ : ∃ pi, P i = pi := ⟨_, rfl⟩
          obtain ⟨x, hx⟩ : ∃ x, gi xs k = x := ⟨_, rfl⟩
          obtain ⟨s, hs⟩ : ∃ s, sdM xs i k = s := ⟨_, rfl⟩
          rw [hpke] at c2 hpk hst
          rw [hpie] at c3 hpi hst
          rw [hx] at c1 bx hst
          rw [hs] at hst h0 h1 ⊢
          have bp := prod6 bx (y := (xs.length : Int) - (pk : Int)) (by omega)
          have q1 : IntKind.i64.wrap ((xs.length : Int) - (pk : Int)) = (xs.length : Int) - (pk : Int) := IntWalk.i64_in _ (by omega)
          obtain ⟨v, hv⟩ : ∃ v, x * ((xs.length : Int) - (pk : Int)) = v := ⟨_, rfl⟩
          have q2 : IntKind.i64.wrap (x * ((xs.length : Int) - (pk : Int))) = v := by rw [IntWalk.i64_in _ (by omega)]; exact hv
          rw [hv] at hst
          obtain ⟨mx, hmx⟩ : ∃ mx, (if s < v then v else s) = mx := ⟨_, rfl⟩
          have hst2 : sdM xs i (k + 1) = if pk ≤ pi then mx else s := by rw [hst, ← hmx]; split <;> (try rfl); split <;> omega
          have HST := Lib.hid hst2
          obtain ⟨t, ht⟩ : ∃ t, decide ((pk : Int) ≤ (pi : Int)) = t := ⟨_, rfl⟩
          have ht2 : decide (pk ≤ pi) = t := by rw [← ht]; by_cases h : pk ≤ pi <;> simp [h] <;> omega
          have HT := Lib.hid ht2
          clear hst hst2 hpke hpie hx hs bp bx hv h0 h1
          cases t with
          | true =>
            go_wp2_with fail
            go_quiet (fail)
            go_upto_region 11 with fail
            go_quiet (fail)
            go_wp2_with fail
            go_roundw
            case rel => exact ⟨k + 1, by omega, by go_num, by rw [HST.out, if_pos (of_decide_eq_true HT.out)], _, rfl⟩
            case measure => simp [intOf]; omega
          | false =>
            go_wp2_with fail
            go_quiet (fail)
            go_wp2_with fail
            go_roundw
            case rel => exact ⟨k + 1, by omega, by go_num, by rw [HST.out, if_neg (of_decide_eq_false HT.out)], n + nq, by simp⟩
            case measure => simp [intOf]; omega
        · have hkn : k = xs.length := by omega
          have HK := Lib.hid hkn
          have hbw : Below w1.heap.size w1 (wo.drewN n) := Below.drewN hb n
          have ho := HO.out.below (Below.drewN (Below.refl wo.heap.size wo) n)
          have HOO := Lib.hid ho
          obtain ⟨s, hs⟩ : ∃ s, sdM xs i k = s := ⟨_, rfl⟩
          rw [hs]
          have HM := Lib.hid hs
          obtain ⟨mn, hmn⟩ : ∃ mn : Int, (if 1000 < s then 1000 else s) = mn := ⟨_, rfl⟩
          have hme : min s 1000 = mn := by rw [← hmn]; split <;> omega
          have HME := Lib.hid hme
          have hzw := hbw.size
          clear hkn ho hs HO hme h0 h1
          go_wp2_with (at_builtin; refine wpList_app1 rfl (.tmp 46) (.tmp 49) 22 rfl w1.heap.size 3 (.int .i64 0) 1 8 Try.underlying22 infoI rfl (by decide) (by decide) _ _ _ rfl (World.ownsRow.alloc HOO.out _) ⟨(wo.drewN n).heap.size, 0, none⟩ 1 [.int .i64 mn] rfl rfl (cell_one_new _ _ _) (by simp [Value.oneCell']) (by omega) (by simp at hzw ⊢; omega) ?_; intro g2 cap2 w4 o1 o2 o3)
          go_roundw
          case rel =>
            have e : min (sdM xs i xs.length) 1000 = mn := by rw [← HK.out, HM.out]; exact HME.out
            exact ⟨i + 1, by omega, by go_num, by rw [tabI_succ, e]; exact OwnI.app o1, (hbw.alloc hzw _).trans (Below.app (World.ownsRow.alloc HOO.out _) (by simp at hzw ⊢; omega) o2)⟩
          case measure => simp [intOf]; omega
    · have hin : i = xs.length := by omega
      have HI := Lib.hid hin
      have ho := HO.out
      rw [hin] at ho
      obtain ⟨g, cap, rfl, hg⟩ := ho.shape (by omega)
      rw [hin]
      have HOO := Lib.hid ho
      clear hin ho HO
      go_wp2_with fail
      go_ret
      exact ⟨g, cap, rfl, by omega, (Blk.of_own HOO.out).1, HB1.out.trans (hb.mono hz1)⟩

/-- What StepDown returns. -/
def sdV (xs : List Int) : List Int := if ovB xs = true then tabI (fun i => min (sdM xs i xs.length) 1000) xs.length else []
theorem sdV_le (xs : List Int) (h : xs.length ≤ 1048576) : (sdV xs).length ≤ 1048576 := by
  unfold sdV
  split
  · rw [tabI_length]; exact h
  · simp

set_option maxHeartbeats 1000000 in
theorem sStepDown_all (b o c : Nat) (xs : List Int) (w : World) (h : RowI w b o xs) (hm : xs.length ≤ 1099511627776) :
    Calls Try.prog 13 #[.slice (some ⟨b, o, none⟩) xs.length c] w
      fun e w' => ∃ v, e = .returned v ∧ Mut 3 w' w.heap.size v (sdV xs).length (ic (sdV xs)) ∧ Below w.heap.size w w' := by
  have H := Lib.hid h
  clear h
  cases hv : ovB xs with
  | true =>
    have HV := Lib.hid (ov_of hv)
    have e : sdV xs = tabI (fun i => min (sdM xs i xs.length) 1000) xs.length := by simp [sdV, hv]
    rw [e, tabI_length]
    clear e
    go_enter Try.func13, Try.ntmps13
    go_wp2_with (first
      | (go_at_call 41; refine (svalidOdds_any b o c xs _ H.out hm).mono ?_; rintro e w1 ⟨rfl, rfl⟩)
      | (go_at_call 42; refine (sstepDown_any b o c xs _ H.out HV.out).mono ?_; rintro e w2 ⟨g, cap, rfl, hg, hk, hb2⟩))
    go_ret
    exact ⟨_, rfl, .inr ⟨g, cap, rfl, hg, hk⟩, hb2⟩
  | false =>
    have e : sdV xs = [] := by simp [sdV, hv]
    rw [e]
    clear e
    go_enter Try.func13, Try.ntmps13
    go_wp2_with (go_at_call 41; refine (svalidOdds_any b o c xs _ H.out hm).mono ?_; rintro e w1 ⟨rfl, rfl⟩)
    go_ret
    exact ⟨_, rfl, .inl ⟨rfl, rfl, rfl⟩, Below.refl _ _⟩

end Go.Proofs.Ytjkadlmlkcanpaa
