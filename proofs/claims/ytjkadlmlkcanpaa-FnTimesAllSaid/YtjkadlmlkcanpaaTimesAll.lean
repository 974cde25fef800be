/- impl.TimesAll and spec.TimesAll. -/
import Derived.Test.YtjkadlmlkcanpaaOddsP
namespace Go.Proofs.Ytjkadlmlkcanpaa
open Go.RowKit

def taV (xs : List Int) : List Int := if ovB xs = true then tabI (taM xs) xs.length else []

set_option maxHeartbeats 4000000 in
theorem timesAll_any (b o c : Nat) (xs : List Int) (w : World) (h : RowI w b o xs) (hv : ovB xs = true) (hm : xs.length ≤ 1099511627776) :
    Calls Try.prog 24 #[.slice (some ⟨b, o, none⟩) xs.length c] w
      fun e w' => ∃ g cap, e = .returned (.slice (some ⟨g, 0, none⟩) xs.length cap) ∧ w.heap.size ≤ g ∧ Blk w' g 3 (ic (tabI (taM xs) xs.length)) ∧ Below w.heap.size w w' := by
  have hvl := ov_of hv
  have hn0 := hvl.n0
  have hn6 := hvl.n6
  have HV := Lib.hid hvl
  have H := Lib.hid h
  obtain ⟨i0, hi, hz0, hz1, hz2⟩ := info_parts infoI
  clear h hvl
  go_enter Try.func24, Try.ntmps24
  go_wp2_with (first
    | (go_at_call 43; refine (validOdds_any b o c xs _ H.out hm).mono ?_; rintro e w1 ⟨rfl, hb1⟩; have hzz1 := hb1.size)
    | (at_make; refine wpList_make_full _ rfl _ _ 22 rfl w1.heap.size 3 i0 (.int .i64 0) 1 Try.underlying22 hi hz0 hz1 .i64 .i64 _ _ xs.length rfl rfl rfl rfl (by rw [hz2]; omega) (by unfold maxLen; omega) (Nat.le_refl _) ?_; intro w2 o2 g2; have hb2 : Below w1.heap.size w1 w2 := (Below.refl _ _).grown g2 (Nat.le_refl _) (fun k hk => by cases hk); have hzz2 := hb2.size))
  obtain ⟨cs0, hcs0⟩ : ∃ cs, (madeCells (Value.int .i64 0).cells (xs.length * 1)).toList = cs := ⟨_, rfl⟩
  have hcl : cs0.length = xs.length := by rw [← hcs0, Array.length_toList, size_madeCells, Nat.mul_one]
  have hbk := (Blk.of_own o2).1
  rw [hcs0] at hbk
  have HBK := Lib.hid hbk
  have HCL := Lib.hid hcl
  have HB2 := Lib.hid (hb1.trans (hb2.mono hzz1))
  obtain ⟨g, hg⟩ : ∃ g, w1.heap.size = g := ⟨_, rfl⟩
  have hwg : w.heap.size ≤ g := by omega
  rw [hg] at HBK ⊢
  clear o2 g2 hb1 hb2 hbk hcl hcs0 hg hi hz0 hz1 hz2
  go_loopw [14] (fun v14 wr => ∃ k : Nat, k ≤ xs.length ∧ v14 = .int .i64 k ∧ (∃ cs : List Value, cs.length = xs.length ∧ (∀ j, j < k → cs[j]? = some (.int .i64 (taM xs j))) ∧ Blk wr g 3 cs) ∧ Below w.heap.size w wr)
    (fun v14 _ => xs.length - (intOf v14).toNat)
  case atStart => exact ⟨0, Nat.zero_le _, rfl, ⟨cs0, HCL.out, fun j hj => absurd hj (Nat.not_lt_zero _), HBK.out⟩, HB2.out⟩
  case round =>
    clear HBK HB2 HCL
    obtain ⟨k, hk, rfl, ⟨cs, hc1, hc2, hc3⟩, hb⟩ := hrel
    have H1 := Lib.hid hc1
    have H2 := Lib.hid hc2
    have H3 := Lib.hid hc3
    have HB := Lib.hid hb
    have l3 := hc3.lt
    by_cases hlt : k < xs.length
    · obtain ⟨u, hu⟩ : ∃ u, cs[k]? = some u := ⟨cs[k]'(by omega), List.getElem?_eq_getElem _⟩
      have x1 := hc3.cell hu
      have f1 := hc3.frozen k
      have y1 := (H.out.below hb).cell k hlt
      have bx := HV.out.x k hlt
      have hst : taM xs k = min 1000 (gi xs k * (xs.length : Int)) := rfl
      obtain ⟨x, hx⟩ : ∃ x, gi xs k = x := ⟨_, rfl⟩
      rw [hx] at y1 bx hst
      have bp := prod6 bx (y := (xs.length : Int)) (by omega)
      have q1 : IntKind.i64.wrap (x * (xs.length : Int)) = x * (xs.length : Int) := IntWalk.i64_in _ (by omega)
      obtain ⟨v, hv⟩ : ∃ v, x * (xs.length : Int) = v := ⟨_, rfl⟩
      rw [hv] at q1 hst bp
      obtain ⟨mn, hmn⟩ : ∃ mn : Int, (if v < 1000 then v else 1000) = mn := ⟨_, rfl⟩
      have hst2 : taM xs k = mn := by rw [hst, ← hmn]; split <;> omega
      have hmn2 : min 1000 v = mn := by rw [← hmn]; split <;> omega
      have HST := Lib.hid hst2
      clear hst hst2 hx bx bp hc1 hc2 hc3 hu hb
      go_wp2_with fail
      go_roundw
      case rel =>
        have hl := H1.out
        exact ⟨k + 1, by omega, by go_num, ⟨cs.set k (.int .i64 mn), by rw [List.length_set]; exact hl, fun j hj => by
          by_cases e : j = k
          · subst e; rw [List.getElem?_set_self (by omega), HST.out]
          · rw [List.getElem?_set_ne (fun h => e h.symm)]; exact H2.out j (by omega), H3.out.set _ _⟩, HB.out.setCell (by simp; omega) _⟩
      case measure => simp [intOf]; omega
    · have hkn : k = xs.length := by omega
      have hcs : cs = ic (tabI (taM xs) xs.length) := ic_tab hc1 (fun j hj => hc2 j (by omega))
      have HCS := Lib.hid hcs
      clear hc1 hc2 hc3 hcs hkn hb
      go_wp2_with fail
      go_ret
      exact ⟨g, _, rfl, hwg, by rw [← HCS.out]; exact H3.out, HB.out⟩

set_option maxHeartbeats 1000000 in
theorem timesAll_all (b o c : Nat) (xs : List Int) (w : World) (h : RowI w b o xs) (hm : xs.length ≤ 1099511627776) :
    Calls Try.prog 24 #[.slice (some ⟨b, o, none⟩) xs.length c] w
      fun e w' => ∃ v, e = .returned v ∧ Mut 3 w' w.heap.size v (taV xs).length (ic (taV xs)) ∧ Below w.heap.size w w' := by
  cases hv : ovB xs with
  | true =>
    have e : taV xs = tabI (taM xs) xs.length := by simp [taV, hv]
    rw [e, tabI_length]
    exact (timesAll_any b o c xs w h hv hm).mono fun e w' ⟨g, cap, h1, h2, h3, h4⟩ => ⟨_, h1, .inr ⟨g, cap, rfl, h2, h3⟩, h4⟩
  | false =>
    have H := Lib.hid h
    have e : taV xs = [] := by simp [taV, hv]
    rw [e]
    clear e h
    go_enter Try.func24, Try.ntmps24
    go_wp2_with (go_at_call 43; refine (validOdds_any b o c xs _ H.out hm).mono ?_; rintro e w1 ⟨rfl, hb1⟩)
    go_ret
    exact ⟨_, rfl, .inl ⟨rfl, rfl, rfl⟩, hb1⟩

set_option maxHeartbeats 4000000 in
theorem sTimesAll_all (b o c : Nat) (xs : List Int) (w : World) (h : RowI w b o xs) (hm : xs.length ≤ 1099511627776) :
    Calls Try.prog 26 #[.slice (some ⟨b, o, none⟩) xs.length c] w
      fun e w' => ∃ v, e = .returned v ∧ Mut 3 w' w.heap.size v (taV xs).length (ic (taV xs)) ∧ Below w.heap.size w w' := by
  have H := Lib.hid h
  clear h
  cases hv : ovB xs with
  | true =>
    have e : taV xs = tabI (taM xs) xs.length := by simp [taV, hv]
    have HV := Lib.hid (ov_of hv)
    have hn0 := HV.out.n0
    have hn6 := HV.out.n6
    rw [e, tabI_length]
    clear e
    go_enter Try.func26, Try.ntmps26
    go_wp2_with (go_at_call 41; refine (svalidOdds_any b o c xs _ H.out hm).mono ?_; rintro e w1 ⟨rfl, rfl⟩)
    go_loopw [3, 4] (fun v3 v4 wr => ∃ k g cap : Nat, v4 = .int .i64 k ∧ k ≤ xs.length ∧ v3 = .slice (some ⟨g, 0, none⟩) k cap ∧ OwnI wr w.heap.size (.slice (some ⟨g, 0, none⟩) k cap) k (tabI (taM xs) k) ∧ Below w.heap.size w wr)
      (fun _ v4 _ => xs.length - (intOf v4).toNat)
    case atStart => exact ⟨0, w.heap.size, 0, rfl, by omega, rfl, World.ownsRow_made w #[] 0 (Nat.le_refl _) (by unfold maxLen; omega) rfl, by (repeat' (first | (with_reducible exact Below.refl _ _) | (with_reducible assumption) | (with_reducible refine Below.drewN ?_ _) | (with_reducible refine Below.alloc ?_ ?_ _) | (with_reducible refine Below.drew ?_) | (with_reducible refine Below.setCell ?_ ?_ _) | (with_reducible refine Below.trans ?_ (Below.mono (by assumption) ?_)) | go_size | (with_reducible refine Nat.le_trans ?_ (Below.size (by assumption)))))⟩
    case round =>
      obtain ⟨k, g, cap, rfl, hk, rfl, ht, hb⟩ := hrel
      have HT := Lib.hid ht
      have HB := Lib.hid hb
      have hz := hb.size
      by_cases hlt : k < xs.length
      · have y1 := (H.out.below hb).cell k hlt
        have bx := HV.out.x k hlt
        have hst : taM xs k = min 1000 (gi xs k * (xs.length : Int)) := rfl
        obtain ⟨x, hx⟩ : ∃ x, gi xs k = x := ⟨_, rfl⟩
        rw [hx] at y1 bx hst
        have bp := prod6 bx (y := (xs.length : Int)) (by omega)
        have q1 : IntKind.i64.wrap (x * (xs.length : Int)) = x * (xs.length : Int) := IntWalk.i64_in _ (by omega)
        obtain ⟨v, hv⟩ : ∃ v, x * (xs.length : Int) = v := ⟨_, rfl⟩
        rw [hv] at q1 hst bp
        obtain ⟨mn, hmn⟩ : ∃ mn : Int, (if 1000 < v then 1000 else v) = mn := ⟨_, rfl⟩
        have hst2 : taM xs k = mn := by rw [hst, ← hmn]; split <;> omega
        have hmn2 : min v 1000 = mn := by rw [← hmn]; split <;> omega
        have HST := Lib.hid hst2
        clear hst hst2 hx bx bp ht hb
        go_wp2_with (at_builtin; refine wpList_app1 rfl (.tmp 15) (.tmp 24) 22 rfl w.heap.size 3 (.int .i64 0) 1 8 Try.underlying22 infoI rfl (by decide) (by decide) _ _ _ rfl (World.ownsRow.alloc HT.out _) ⟨_, 0, none⟩ 1 [.int .i64 _] rfl rfl (cell_one_new _ _ _) (by simp [Value.oneCell']) (by omega) (by simp; omega) ?_; intro g6 cap6 w6 o1 o2 o3)
        go_roundw
        case rel => exact ⟨k + 1, g6, cap6, by go_num, by omega, rfl, by rw [tabI_succ, HST.out]; exact OwnI.app o1, (HB.out.alloc hz _).trans (Below.app (World.ownsRow.alloc HT.out _) (by simp; omega) o2)⟩
        case measure => simp [intOf]; omega
      · have e : k = xs.length := by omega
        subst e
        go_wp2_with fail
        go_ret
        exact ⟨_, rfl, .inr ⟨g, cap, rfl, (Blk.of_own HT.out).2, (Blk.of_own HT.out).1⟩, HB.out⟩
  | false =>
    have e : taV xs = [] := by simp [taV, hv]
    rw [e]
    clear e
    go_enter Try.func26, Try.ntmps26
    go_wp2_with (go_at_call 41; refine (svalidOdds_any b o c xs _ H.out hm).mono ?_; rintro e w1 ⟨rfl, rfl⟩)
    go_ret
    exact ⟨_, rfl, .inl ⟨rfl, rfl, rfl⟩, Below.refl _ _⟩

end Go.Proofs.Ytjkadlmlkcanpaa
