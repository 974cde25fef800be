/- spec.spreadOut: the means of the blocks. -/
import Derived.Test.YtcmbfkdhfdiamaaAsc
namespace Go.Proofs.Ytcmbfkdhfdiamaa
open Go.RowKit

theorem OwnF.empty' (w : World) (base : Nat) (hb : base ≤ w.heap.size) (cur : Array Value) (hc : cur.size = 0) : OwnF (w.alloc (.cells cur 29)) base (.slice (some ⟨w.heap.size, 0, none⟩) 0 0) 0 [] :=
  World.ownsRow_made w cur 0 hb (by unfold maxLen; omega) (by omega)

set_option maxHeartbeats 4000000 in
theorem sspread_any (b o c b' o' c' b2 o2 c2 m : Nat) (xs ws : List Int) (R : List Nat) (w : World) (h : RowI w b o xs) (h' : RowI w b' o' ws) (hs : RowI w b2 o2 (lst R)) (hm : R.length = m) (hv : Vl xs ws) (hd : Dec (xs.length - 1) R) (h0 : bd (xs.length :: R) 0 = 0) (hml : m ≤ 8) :
    Calls Try.prog 68 #[.slice (some ⟨b, o, none⟩) xs.length c, .slice (some ⟨b', o', none⟩) ws.length c', .slice (some ⟨b2, o2, none⟩) m c2] w
      fun e w' => ∃ v, e = .returned v ∧ OwnF w' w.heap.size v xs.length (tab (bmq xs ws R) xs.length) ∧ Below w.heap.size w w' := by
  have hn8 := hv.n8
  have HV := Lib.hid hv
  have H := Lib.hid h
  have H' := Lib.hid h'
  have HS := Lib.hid hs
  have HD := Lib.hid hd
  have HM := Lib.hid hm
  have HZ := Lib.hid h0
  have hn0 := hv.n0
  clear hv h h' hs hd hm h0
  go_enter Try.func68, Try.ntmps68
  go_wp2
  go_loopw [7, 8] (fun v7 v8 wr => ∃ i : Nat, i ≤ m ∧ v8 = .int .i64 i ∧ OwnF wr w.heap.size v7 (bd (xs.length :: R) i) (tab (bmq xs ws R) (bd (xs.length :: R) i)) ∧ Below w.heap.size w wr)
    (fun _ v8 _ => m - (intOf v8).toNat)
  case atStart => exact ⟨0, Nat.zero_le _, rfl, by rw [HZ.out]; exact OwnF.empty' _ _ (Nat.le_refl _) _ rfl, by (repeat' (first | (with_reducible exact Below.refl _ _) | (with_reducible assumption) | (with_reducible refine Below.drewN ?_ _) | (with_reducible refine Below.alloc ?_ ?_ _) | (with_reducible refine Below.drew ?_) | (with_reducible refine Below.setCell ?_ ?_ _) | (with_reducible refine Below.trans ?_ (Below.mono (by assumption) ?_)) | go_size | (with_reducible refine Nat.le_trans ?_ (Below.size (by assumption)))))⟩
  case round =>
    obtain ⟨i, hi, rfl, hown, hb⟩ := hrel
    by_cases hlt0 : i < m
    · have hz := hb.size
      have hlt : i < R.length := by rw [HM.out]; exact hlt0
      obtain ⟨lo, hlo⟩ : ∃ lo, bd (xs.length :: R) i = lo := ⟨_, rfl⟩
      obtain ⟨hi', hhi⟩ : ∃ hi', bd (xs.length :: R) (i + 1) = hi' := ⟨_, rfl⟩
      have hlh : lo < hi' := by rw [← hlo, ← hhi]; exact bd_up HD.out (by omega) i hlt
      have hhb : hi' ≤ xs.length := by rw [← hhi]; exact bd_bound HD.out _ hlt
      have hbq : ∀ j, lo ≤ j → j < hi' → bmq xs ws R j = mq xs ws lo (hi' - 1) := fun j h1 h2 => by
        rw [← hlo, ← hhi]; exact bmq_eq HD.out hlt (by rw [hlo]; exact h1) (by rw [hhi]; exact h2)
      have e1 : gi (lst R) i = lo := by rw [gi_bd hlt, ← bd_cons_lt (a := xs.length) hlt, hlo]
      rw [hlo] at hown
      have HO := Lib.hid hown
      have BQ := Lib.hid hbq
      have E1 := Lib.hid e1
      have HLO := Lib.hid hlo
      have HHI := Lib.hid hhi
      clear hown hbq e1 hlo hhi
      have c1 := ((HS.out.below hb).cell i (by rw [lst_length]; exact hlt))
      rw [E1.out] at c1
      by_cases hi1 : i + 1 < m
      · have c3 := ((HS.out.below hb).cell (i + 1) (by rw [lst_length, HM.out]; exact hi1))
        have e3 : gi (lst R) (i + 1) = hi' := by rw [gi_bd (by rw [HM.out]; exact hi1), ← bd_cons_lt (a := xs.length) (by rw [HM.out]; exact hi1), HHI.out]
        rw [e3] at c3
        clear e3
        have t1 : decide ((i : Int) + 1 < (m : Int)) = true := by simp; omega
        go_wp2_with fail
        clear c1 c3
        go_loopw [7, 10] (fun v7 v10 wr => ∃ k : Nat, lo ≤ k ∧ k ≤ hi' ∧ v10 = .int .i64 k ∧ OwnF wr w.heap.size v7 k (tab (bmq xs ws R) k) ∧ Below w.heap.size w wr) (fun _ v10 _ => hi' - (intOf v10).toNat)
        case atStart => exact ⟨lo, Nat.le_refl _, Nat.le_of_lt hlh, rfl, HO.out, hb⟩
        case round =>
          clear HO hb hz
          obtain ⟨k, hk1, hk2, rfl, hown, hb⟩ := hrel
          have HO := Lib.hid hown
          clear hown
          have hz := hb.size
          by_cases hkl : k < hi'
          · obtain ⟨p, hp⟩ : ∃ p, mq xs ws ((lo : Nat) : Int).toNat ((hi' : Int) - 1).toNat = p := ⟨_, rfl⟩
            have hq : bmq xs ws R k = p := by rw [BQ.out k hk1 hkl, ← hp, show ((hi' : Int) - 1).toNat = hi' - 1 from by omega]; rfl
            have HP := Lib.hid hp
            have HQ := Lib.hid hq
            clear hp hq
            have qh : IntKind.i64.wrap ((hi' : Int) - 1) = (hi' : Int) - 1 := IntWalk.i64_in _ (by omega)
            have c2 := ((HS.out.below hb).cell i (by rw [lst_length]; exact hlt))
            rw [E1.out] at c2
            go_wp2_with (first
              | (go_at_call 72; refine (smean_as b o c b' o' c' xs ws _ _ p _ (H.out.below hb) (H'.out.below hb) HV.out (by omega) (by omega) (by omega) HP.out).mono ?_; rintro e w3 ⟨rfl, hb3⟩; have hz3 := hb3.size)
              | (at_builtin; refine wpList_app1 rfl (.tmp 39) (.tmp 49) 37 rfl w.heap.size 29 (.agg #[.int .i64 0, .int .i64 0]) 2 16 Try.underlying37 infoF rfl (by decide) (by decide) _ _ _ rfl (World.ownsRow.alloc (HO.out.below hb3) _) ⟨w3.heap.size, 0, none⟩ 1 [.int .i64 (up p), .int .i64 (dn p)] rfl rfl (cell_two_new _ _ _ _) (by simp [Value.oneCell']) (by omega) (by simp; omega) ?_; intro g2 cap2 w4 o1 o2 o3))
            have hb4 : Below w.heap.size w w4 := ((hb.trans (hb3.mono hz)).alloc (by omega) _).trans (Below.app (World.ownsRow.alloc (HO.out.below hb3) _) (by simp; omega) o2)
            have ho4 : OwnF w4 w.heap.size (.slice (some ⟨g2, 0, none⟩) (k + 1) cap2) (k + 1) (tab (bmq xs ws R) (k + 1)) := by rw [tab_succ, HQ.out]; exact OwnF.app o1
            have HO4 := Lib.hid ho4
            clear o1 o2 o3 ho4 HO hb3 c2
            go_wp2
            go_roundw
            case rel => exact ⟨k + 1, by omega, by omega, by go_num, HO4.out, hb4⟩
            case measure => simp [intOf]; omega
          · have hkh : k = hi' := by omega
            have HK := Lib.hid hkh
            clear hkh
            go_wp2
            go_roundw
            case rel => exact ⟨i + 1, by omega, by go_num, by rw [HHI.out]; have := HO.out; rw [HK.out] at this; exact this, hb⟩
            case measure => simp [intOf]; omega
      · have e4 : hi' = xs.length := by have := HHI.out; rw [show i + 1 = R.length from by rw [HM.out] at hlt ⊢; omega, bd_cons_eq] at this; exact this.symm
        subst e4
        have t1 : decide ((i : Int) + 1 < (m : Int)) = false := by simp; omega
        go_wp2_with fail
        clear c1
        go_loopw [7, 10] (fun v7 v10 wr => ∃ k : Nat, lo ≤ k ∧ k ≤ xs.length ∧ v10 = .int .i64 k ∧ OwnF wr w.heap.size v7 k (tab (bmq xs ws R) k) ∧ Below w.heap.size w wr) (fun _ v10 _ => xs.length - (intOf v10).toNat)
        case atStart => exact ⟨lo, Nat.le_refl _, Nat.le_of_lt hlh, rfl, HO.out, hb⟩
        case round =>
          clear HO hb hz
          obtain ⟨k, hk1, hk2, rfl, hown, hb⟩ := hrel
          have HO := Lib.hid hown
          clear hown
          have hz := hb.size
          by_cases hkl : k < xs.length
          · obtain ⟨p, hp⟩ : ∃ p, mq xs ws ((lo : Nat) : Int).toNat ((xs.length : Int) - 1).toNat = p := ⟨_, rfl⟩
            have hq : bmq xs ws R k = p := by rw [BQ.out k hk1 hkl, ← hp, show ((xs.length : Int) - 1).toNat = xs.length - 1 from by omega]; rfl
            have HP := Lib.hid hp
            have HQ := Lib.hid hq
            clear hp hq
            have qh : IntKind.i64.wrap ((xs.length : Int) - 1) = (xs.length : Int) - 1 := IntWalk.i64_in _ (by omega)
            have c2 := ((HS.out.below hb).cell i (by rw [lst_length]; exact hlt))
            rw [E1.out] at c2
            go_wp2_with (first
              | (go_at_call 72; refine (smean_as b o c b' o' c' xs ws _ _ p _ (H.out.below hb) (H'.out.below hb) HV.out (by omega) (by omega) (by omega) HP.out).mono ?_; rintro e w3 ⟨rfl, hb3⟩; have hz3 := hb3.size)
              | (at_builtin; refine wpList_app1 rfl (.tmp 39) (.tmp 49) 37 rfl w.heap.size 29 (.agg #[.int .i64 0, .int .i64 0]) 2 16 Try.underlying37 infoF rfl (by decide) (by decide) _ _ _ rfl (World.ownsRow.alloc (HO.out.below hb3) _) ⟨w3.heap.size, 0, none⟩ 1 [.int .i64 (up p), .int .i64 (dn p)] rfl rfl (cell_two_new _ _ _ _) (by simp [Value.oneCell']) (by omega) (by simp; omega) ?_; intro g2 cap2 w4 o1 o2 o3))
            have hb4 : Below w.heap.size w w4 := ((hb.trans (hb3.mono hz)).alloc (by omega) _).trans (Below.app (World.ownsRow.alloc (HO.out.below hb3) _) (by simp; omega) o2)
            have ho4 : OwnF w4 w.heap.size (.slice (some ⟨g2, 0, none⟩) (k + 1) cap2) (k + 1) (tab (bmq xs ws R) (k + 1)) := by rw [tab_succ, HQ.out]; exact OwnF.app o1
            have HO4 := Lib.hid ho4
            clear o1 o2 o3 ho4 HO hb3 c2
            go_wp2
            go_roundw
            case rel => exact ⟨k + 1, by omega, by omega, by go_num, HO4.out, hb4⟩
            case measure => simp [intOf]; omega
          · have hkh : k = xs.length := by omega
            have HK := Lib.hid hkh
            clear hkh
            go_wp2
            go_roundw
            case rel => exact ⟨i + 1, by omega, by go_num, by rw [HHI.out]; have := HO.out; rw [HK.out] at this; exact this, hb⟩
            case measure => simp [intOf]; omega
    · have him : i = R.length := by rw [HM.out]; omega
      have e : bd (xs.length :: R) i = xs.length := by rw [him]; exact bd_cons_eq
      rw [e] at hown
      have HO := Lib.hid hown
      clear hown him e
      go_wp2
      go_ret
      exact ⟨_, rfl, HO.out, hb⟩

end Go.Proofs.Ytcmbfkdhfdiamaa
