/- impl.PeakOf: for all lists. -/
import Derived.Test.YtcmbfkdhfdiamaaSPeak
import Derived.Test.YtcmbfkdhfdiamaaEmpty
namespace Go.Proofs.Ytcmbfkdhfdiamaa
open Go.RowKit

theorem clone_as (b o c n : Nat) (xs : List Int) (w : World) (h : RowI w b o xs) (hl : n ≤ 1048576) (hx : xs.length = n) (hn : 1 ≤ n) :
    Calls Try.prog 80 #[.slice (some ⟨b, o, none⟩) n c] w fun e w' => ∃ g cap, e = .returned (.slice (some ⟨g, 0, none⟩) n cap) ∧ w.heap.size ≤ g ∧ Blk w' g 3 (ic xs) ∧ Below w.heap.size w w' := by
  subst hx
  refine (clone_row b o c xs w h hl hn).mono ?_
  rintro e w' ⟨g, cap, rfl, ho, hb⟩
  exact ⟨g, cap, rfl, (Blk.of_own ho).2, (Blk.of_own ho).1, hb⟩
theorem riseMiss_as (b o c b' o' c' n nw : Nat) (xs ws : List Int) (p : Rat) (w : World) (h : RowI w b o xs) (h' : RowI w b' o' ws) (hv : Vl xs ws) (hn : xs.length = n) (hnw : ws.length = nw) (hp : missR xs ws = p) :
    Calls Try.prog 69 #[.slice (some ⟨b, o, none⟩) n c, .slice (some ⟨b', o', none⟩) nw c'] w
      fun e w' => e = .returned (.agg #[.int .i64 (up p), .int .i64 (dn p)]) ∧ Below w.heap.size w w' := by
  subst hn hnw hp
  exact riseMiss_any b o c b' o' c' xs ws w h h' hv

/-- Two slices of the call's own, of m elements each: rows, or nothing. -/
def TwoR (w0 wx : World) (m : Nat) (s t : Value) (A B : List Int) : Prop :=
  ((∃ g c g' c', s = .slice (some ⟨g, 0, none⟩) m c ∧ t = .slice (some ⟨g', 0, none⟩) m c' ∧ w0.heap.size ≤ g ∧ w0.heap.size ≤ g' ∧ g ≠ g' ∧ Blk wx g 3 (ic A) ∧ Blk wx g' 3 (ic B) ∧ A.length = m ∧ B.length = m ∧ 1 ≤ m) ∨
    (∃ a c a' c', s = .slice a 0 c ∧ t = .slice a' 0 c' ∧ m = 0)) ∧ Below w0.heap.size w0 wx

theorem TwoR.miss {w0 wx : World} {m : Nat} {s t : Value} {A B : List Int} (h : TwoR w0 wx m s t A B) (hA : A.length = m) (hv : Vl0 A B) {p : Rat} (hp : missR A B = p) {w : World} (hb : Below wx.heap.size wx w) :
    Calls Try.prog 69 #[s, t] w fun e w' => e = .returned (.agg #[.int .i64 (up p), .int .i64 (dn p)]) ∧ Below w.heap.size w w' := by
  rcases h.1 with ⟨g, c, g', c', rfl, rfl, _, _, _, k1, k2, l1, l2, hm⟩ | ⟨a, c, a', c', rfl, rfl, rfl⟩
  · rcases hv with ⟨h1, _⟩ | hv
    · rw [h1] at l1
      simp at l1
      omega
    · exact riseMiss_as g 0 c g' 0 c' m m A B p w (k1.row.below hb) (k2.row.below hb) hv l1 l2 hp
  · rcases hv with ⟨h1, h2⟩ | hv
    · have e : p = 0 := by rw [← hp, h1, h2]; rfl
      rw [e]
      exact riseMiss_nil a a' c c' w
    · have := hv.n0
      omega
theorem miss_left (b o c b' o' c' k : Nat) (xs ws : List Int) (p : Rat) (w : World) (h : RowI w b o xs) (h' : RowI w b' o' ws) (hv : Vl xs ws) (hk : k ≤ xs.length) (hp : missR (xs.take k) (ws.take k) = p) :
    Calls Try.prog 69 #[.slice (some ⟨b, o, none⟩) k c, .slice (some ⟨b', o', none⟩) k c'] w
      fun e w' => e = .returned (.agg #[.int .i64 (up p), .int .i64 (dn p)]) ∧ Below w.heap.size w w' := by
  have hnw := hv.nw
  rcases vl_take hv hk with ⟨h1, h2⟩ | hv1
  · have e : p = 0 := by rw [← hp, h1, h2]; rfl
    have hk0 : k = 0 := by
      have : (xs.take k).length = 0 := by rw [h1]; rfl
      rw [List.length_take] at this
      have := hv.n0
      omega
    subst hk0
    rw [e]
    exact riseMiss_nil _ _ c c' w
  · exact riseMiss_as b o c b' o' c' k k _ _ p w (h.take k) (h'.take k) hv1 (by rw [List.length_take]; omega) (by rw [List.length_take]; omega) hp

set_option maxHeartbeats 4000000 in
theorem peakOf_all (b o c b' o' c' : Nat) (xs ws : List Int) (w : World) (h : RowI w b o xs) (h' : RowI w b' o' ws) (hm : xs.length ≤ 1099511627776) (hm' : ws.length ≤ 1099511627776) (hc : xs.length ≤ c) (hc' : ws.length ≤ c') :
    Calls Try.prog 47 #[.slice (some ⟨b, o, none⟩) xs.length c, .slice (some ⟨b', o', none⟩) ws.length c'] w
      fun e w' => e = .returned (.tuple #[.int .i64 (pkA xs ws), .agg #[.int .i64 (pkU xs ws), .int .i64 (pkD xs ws)], .bool (vlB xs ws)]) ∧ Below w.heap.size w w' := by
  have H := Lib.hid h
  have H' := Lib.hid h'
  clear h h'
  cases hv : vlB xs ws with
  | false =>
    have e1 : pkA xs ws = 0 := by simp [pkA, hv]
    have e2 : pkU xs ws = 0 := by simp [pkU, hv]
    have e3 : pkD xs ws = 0 := by simp [pkD, hv]
    rw [e1, e2, e3]
    clear e1 e2 e3
    go_enter Try.func47, Try.ntmps47
    go_wp2_with (go_at_call 62; refine (validLoads_any b o c b' o' c' xs ws _ (H.out.below below_alloc) (H'.out.below below_alloc) hm hm').mono ?_; rintro e w1 ⟨rfl, hb1⟩; have hz1 := hb1.size; have hk1 := (Blk.made w #[.int .i64 0, .int .i64 0] 29).below hb1; have hbA : Below w.heap.size w w1 := below_alloc.trans (hb1.mono (by simp)); have x1 := hk1.cell (j := 0) rfl; have x2 := hk1.cell (j := 1) rfl; have f1 := hk1.frozen 0; have f2 := hk1.frozen 1)
    have y1 := (hk1.set 0 (.int .i64 0)).cell (j := 0) rfl
    have y2 := ((hk1.set 0 (.int .i64 0)).set 1 (.int .i64 0)).cell (j := 1) rfl
    refine bodyPost_ret (v := .tuple #[.int .i64 0, .agg #[.int .i64 0, .int .i64 0], .bool false]) ?_ rfl ⟨rfl, ?_⟩
    · simp [results, Try.results47, go_sem, y1, y2]
    · exact (hbA.setCell (Nat.le_refl _) _).setCell (Nat.le_refl _) _
  | true =>
    have hvl := vl_of hv
    have hn8 := hvl.n8
    have hn0 := hvl.n0
    have HNW := Lib.hid hvl.nw
    have HV := Lib.hid hvl
    have e1 : pkA xs ws = (pkI (peakT xs ws) xs.length : Nat) := by simp [pkA, hv]
    have e2 : pkU xs ws = up (peakT xs ws (pkI (peakT xs ws) xs.length)) := by simp [pkU, hv]
    have e3 : pkD xs ws = dn (peakT xs ws (pkI (peakT xs ws) xs.length)) := by simp [pkD, hv]
    rw [e1, e2, e3]
    have hsm : ∀ k, k ≤ xs.length → Sm 12960000000 10000 (peakT xs ws k) := fun k hk => peak_sm hvl hk
    obtain ⟨T, hT⟩ : ∃ T, peakT xs ws = T := ⟨_, rfl⟩
    rw [hT] at hsm ⊢
    have SM := Lib.hid hsm
    have HT := Lib.hid hT
    clear e1 e2 e3 hvl hsm hT
    go_enter Try.func47, Try.ntmps47
    go_wp2_with (go_at_call 62; refine (validLoads_any b o c b' o' c' xs ws _ (H.out.below below_alloc) (H'.out.below below_alloc) hm hm').mono ?_; rintro e w1 ⟨rfl, hb1⟩; have hz1 := hb1.size; have hk1 := (Blk.made w #[.int .i64 0, .int .i64 0] 29).below hb1; have hbA : Below w.heap.size w w1 := below_alloc.trans (hb1.mono (by simp)))
    simp only [World.size_alloc] at hz1
    obtain ⟨g8, hg8⟩ : ∃ g8, w1.heap.size = g8 := ⟨_, rfl⟩
    have k8 : Blk (w1.alloc (.cells #[.int .i64 0, .int .i64 0] 29)) g8 29 [.int .i64 0, .int .i64 0] := by rw [← hg8]; exact Blk.made w1 #[.int .i64 0, .int .i64 0] 29
    have K8 := Lib.hid k8
    have K5 := Lib.hid (hk1.below (below_alloc (W := w1) (o := .cells #[.int .i64 0, .int .i64 0] 29)))
    have B8 : Below w.heap.size w (w1.alloc (.cells #[.int .i64 0, .int .i64 0] 29)) := hbA.alloc hbA.size _
    have hz8 : w.heap.size < g8 := by omega
    rw [hg8]
    clear hbA hk1 k8 hg8 hz1 hb1
    go_loopw [7, 9] (fun v7 v9 wr => ∃ j : Nat, j ≤ xs.length + 1 ∧ v9 = .int .i64 (j : Int) ∧ v7 = .int .i64 ((pkI T (j - 1) : Nat) : Int) ∧ (∃ u d : Int, (0 < j → u = up (T (pkI T (j - 1))) ∧ d = dn (T (pkI T (j - 1)))) ∧ Blk wr g8 29 [.int .i64 u, .int .i64 d]) ∧ Blk wr w.heap.size 29 [.int .i64 0, .int .i64 0] ∧ Below w.heap.size w wr)
      (fun _ v9 _ => xs.length + 1 - (intOf v9).toNat)
    case atStart => exact ⟨0, Nat.zero_le _, rfl, rfl, ⟨0, 0, fun h => absurd h (Nat.lt_irrefl _), K8.out⟩, K5.out, B8⟩
    case round =>
      clear K8 K5 B8
      obtain ⟨j, hj, rfl, rfl, ⟨u, d, hud, hk8⟩, hk5, hb⟩ := hrel
      have hz := hb.size
      have l8 := hk8.lt
      have HB := Lib.hid hb
      have K8 := Lib.hid hk8
      have K5 := Lib.hid hk5
      have HUD := Lib.hid hud
      by_cases hlt : j ≤ xs.length
      · obtain ⟨x, hx⟩ : ∃ x, T j = x := ⟨_, rfl⟩
        obtain ⟨p1, hp1⟩ : ∃ p, missR (xs.take j) (ws.take j) = p := ⟨_, rfl⟩
        obtain ⟨p2, hp2⟩ : ∃ p, missR (xs.drop j).reverse (ws.drop j).reverse = p := ⟨_, rfl⟩
        have hsum : p1 + p2 = x := by rw [← hx, ← HT.out, ← hp1, ← hp2]; rfl
        have s1 := miss0_sm (vl_take HV.out hlt) (by rw [List.length_take]; omega)
        have s2 := miss0_sm (vl_drop HV.out hlt) (by rw [List.length_reverse, List.length_drop]; omega)
        rw [hp1] at s1
        rw [hp2] at s2
        have ss := sm_mul s1 s2
        have PW := Lib.hid (fun w => plus_any p1 p2 x hsum w (by omega) (by omega))
        have e1 : (xs.drop j).length = xs.length - j := List.length_drop
        have e2 : (ws.drop j).length = ws.length - j := List.length_drop
        have E1 := Lib.hid e1
        have E2 := Lib.hid e2
        have HX := Lib.hid hx
        have HP1 := Lib.hid hp1
        have HP2 := Lib.hid hp2
        have hnw := HNW.out
        have q1 : (0 : Int) ≤ (j : Int) := by omega
        have q2 : (j : Int) ≤ (xs.length : Int) := by omega
        have q3 : (j : Int) ≤ (ws.length : Int) := by omega
        have hjc : j ≤ c := by omega
        have hjc' : j ≤ c' := by omega
        have hjw : j ≤ ws.length := by omega
        clear hnw hx hp1 hp2 hsum s1 s2 ss hk8 hk5 hb hud e1 e2
        go_upto_region 7 with fail
        go_cut [10, 11] (fun s10 s11 wx => TwoR wr wx (xs.length - j) s10 s11 (xs.drop j) (ws.drop j))
        case first =>
          by_cases hjn : j < xs.length
          · have hcj : ¬ c = j := by omega
            have hcj' : ¬ c' = j := by have := HNW.out; omega
            have hwb : ws.length - j ≤ 1048576 := by have := HNW.out; omega
            have hsd : wr.drew.heap.size = wr.heap.size := rfl
            have hr1 := H.out.drop j
            have hr2 := H'.out.drop j
            have HR1 := Lib.hid hr1
            have HR2 := Lib.hid hr2
            have hjw2 : j < ws.length := by have := HNW.out; omega
            clear hr1 hr2
            go_region_held3 (fun w' => Below wr.heap.size wr w') ((first | exact Below.refl _ _ | (repeat' (first | (with_reducible exact Below.refl _ _) | (with_reducible assumption) | (with_reducible refine Below.drewN ?_ _) | (with_reducible refine Below.alloc ?_ ?_ _) | (with_reducible refine Below.drew ?_) | (with_reducible refine Below.setCell ?_ ?_ _) | (with_reducible refine Below.trans ?_ (Below.mono (by assumption) ?_)) | go_size | (with_reducible refine Nat.le_trans ?_ (Below.size (by assumption)))))))
              ((first
                | (go_at_call_of 80 b; have hS : Below wr.heap.size wr _ := (by assumption); refine (clone_as b (o + j) (c - j) (xs.length - j) (xs.drop j) _ (HR1.out.below (HB.out.trans (hS.mono hz))) (by omega) E1.out (by omega)).mono ?_; rintro e w4 ⟨g10, cap10, rfl, hg10, k10, hb4⟩; have hz4 := hb4.size)
                | (go_at_call_of 80 b'; have hS : Below wr.heap.size wr _ := (by assumption); refine (clone_as b' (o' + j) (c' - j) (ws.length - j) (ws.drop j) _ (HR2.out.below (HB.out.trans (hS.mono hz))) hwb E2.out (by omega)).mono ?_; rintro e w5 ⟨g11, cap11, rfl, hg11, k11, hb5⟩; have hz5 := hb5.size)))
            all_goals go_wp2_with fail
            all_goals go_meet
            all_goals exact ⟨.inl ⟨g10, _, g11, _, rfl, by rw [HNW.out], by first | omega | (simp at hg10; omega), by first | omega | (simp at hg10 hg11; omega), by have := k10.lt; first | omega | (simp at hg11; omega), k10.below (by (repeat' (first | (with_reducible exact Below.refl _ _) | (with_reducible assumption) | (with_reducible refine Below.drewN ?_ _) | (with_reducible refine Below.alloc ?_ ?_ _) | (with_reducible refine Below.drew ?_) | (with_reducible refine Below.setCell ?_ ?_ _) | (with_reducible refine Below.trans ?_ (Below.mono (by assumption) ?_)) | go_size | (with_reducible refine Nat.le_trans ?_ (Below.size (by assumption)))))), k11, E1.out, by rw [E2.out, HNW.out], by omega⟩, by (repeat' (first | (with_reducible exact Below.refl _ _) | (with_reducible assumption) | (with_reducible refine Below.drewN ?_ _) | (with_reducible refine Below.alloc ?_ ?_ _) | (with_reducible refine Below.drew ?_) | (with_reducible refine Below.setCell ?_ ?_ _) | (with_reducible refine Below.trans ?_ (Below.mono (by assumption) ?_)) | go_size | (with_reducible refine Nat.le_trans ?_ (Below.size (by assumption)))))⟩
          · have hx0 : xs.length - j = 0 := by omega
            have hw0 : ws.length - j = 0 := by have := HNW.out; omega
            rcases Decidable.em (c = j) with hcj | hcj
            · have hcj2 : j = c := hcj.symm
              subst hcj2
              clear hcj
              rcases Decidable.em (c' = j) with hcj' | hcj'
              · have hcj2 : j = c' := hcj'.symm
                subst hcj2
                clear hcj'
                go_region_held3 (fun w' => Below wr.heap.size wr w') ((first | exact Below.refl _ _ | (repeat' (first | (with_reducible exact Below.refl _ _) | (with_reducible assumption) | (with_reducible refine Below.drewN ?_ _) | (with_reducible refine Below.alloc ?_ ?_ _) | (with_reducible refine Below.drew ?_) | (with_reducible refine Below.setCell ?_ ?_ _) | (with_reducible refine Below.trans ?_ (Below.mono (by assumption) ?_)) | go_size | (with_reducible refine Nat.le_trans ?_ (Below.size (by assumption)))))))
                  ((first
                    | (go_at_call_of 80 b; refine (clone_nil _ _ _).mono ?_; rintro e w4 ⟨a10, cap10, rfl, hb4⟩; have hz4 := hb4.size)
                    | (go_at_call_of 80 b'; refine (clone_nil _ _ _).mono ?_; rintro e w5 ⟨a11, cap11, rfl, hb5⟩; have hz5 := hb5.size)))
                all_goals go_wp2_with fail
                all_goals go_meet
                all_goals exact ⟨.inr ⟨_, _, _, _, rfl, rfl, hx0⟩, by (repeat' (first | (with_reducible exact Below.refl _ _) | (with_reducible assumption) | (with_reducible refine Below.drewN ?_ _) | (with_reducible refine Below.alloc ?_ ?_ _) | (with_reducible refine Below.drew ?_) | (with_reducible refine Below.setCell ?_ ?_ _) | (with_reducible refine Below.trans ?_ (Below.mono (by assumption) ?_)) | go_size | (with_reducible refine Nat.le_trans ?_ (Below.size (by assumption)))))⟩
              · go_region_held3 (fun w' => Below wr.heap.size wr w') ((first | exact Below.refl _ _ | (repeat' (first | (with_reducible exact Below.refl _ _) | (with_reducible assumption) | (with_reducible refine Below.drewN ?_ _) | (with_reducible refine Below.alloc ?_ ?_ _) | (with_reducible refine Below.drew ?_) | (with_reducible refine Below.setCell ?_ ?_ _) | (with_reducible refine Below.trans ?_ (Below.mono (by assumption) ?_)) | go_size | (with_reducible refine Nat.le_trans ?_ (Below.size (by assumption)))))))
                  ((first
                    | (go_at_call_of 80 b; refine (clone_nil _ _ _).mono ?_; rintro e w4 ⟨a10, cap10, rfl, hb4⟩; have hz4 := hb4.size)
                    | (go_at_call_of 80 b'; refine (clone_nil _ _ _).mono ?_; rintro e w5 ⟨a11, cap11, rfl, hb5⟩; have hz5 := hb5.size)))
                all_goals go_wp2_with fail
                all_goals go_meet
                all_goals exact ⟨.inr ⟨_, _, _, _, rfl, rfl, hx0⟩, by (repeat' (first | (with_reducible exact Below.refl _ _) | (with_reducible assumption) | (with_reducible refine Below.drewN ?_ _) | (with_reducible refine Below.alloc ?_ ?_ _) | (with_reducible refine Below.drew ?_) | (with_reducible refine Below.setCell ?_ ?_ _) | (with_reducible refine Below.trans ?_ (Below.mono (by assumption) ?_)) | go_size | (with_reducible refine Nat.le_trans ?_ (Below.size (by assumption)))))⟩
            · rcases Decidable.em (c' = j) with hcj' | hcj'
              · have hcj2 : j = c' := hcj'.symm
                subst hcj2
                clear hcj'
                go_region_held3 (fun w' => Below wr.heap.size wr w') ((first | exact Below.refl _ _ | (repeat' (first | (with_reducible exact Below.refl _ _) | (with_reducible assumption) | (with_reducible refine Below.drewN ?_ _) | (with_reducible refine Below.alloc ?_ ?_ _) | (with_reducible refine Below.drew ?_) | (with_reducible refine Below.setCell ?_ ?_ _) | (with_reducible refine Below.trans ?_ (Below.mono (by assumption) ?_)) | go_size | (with_reducible refine Nat.le_trans ?_ (Below.size (by assumption)))))))
                  ((first
                    | (go_at_call_of 80 b; refine (clone_nil _ _ _).mono ?_; rintro e w4 ⟨a10, cap10, rfl, hb4⟩; have hz4 := hb4.size)
                    | (go_at_call_of 80 b'; refine (clone_nil _ _ _).mono ?_; rintro e w5 ⟨a11, cap11, rfl, hb5⟩; have hz5 := hb5.size)))
                all_goals go_wp2_with fail
                all_goals go_meet
                all_goals exact ⟨.inr ⟨_, _, _, _, rfl, rfl, hx0⟩, by (repeat' (first | (with_reducible exact Below.refl _ _) | (with_reducible assumption) | (with_reducible refine Below.drewN ?_ _) | (with_reducible refine Below.alloc ?_ ?_ _) | (with_reducible refine Below.drew ?_) | (with_reducible refine Below.setCell ?_ ?_ _) | (with_reducible refine Below.trans ?_ (Below.mono (by assumption) ?_)) | go_size | (with_reducible refine Nat.le_trans ?_ (Below.size (by assumption)))))⟩
              · go_region_held3 (fun w' => Below wr.heap.size wr w') ((first | exact Below.refl _ _ | (repeat' (first | (with_reducible exact Below.refl _ _) | (with_reducible assumption) | (with_reducible refine Below.drewN ?_ _) | (with_reducible refine Below.alloc ?_ ?_ _) | (with_reducible refine Below.drew ?_) | (with_reducible refine Below.setCell ?_ ?_ _) | (with_reducible refine Below.trans ?_ (Below.mono (by assumption) ?_)) | go_size | (with_reducible refine Nat.le_trans ?_ (Below.size (by assumption)))))))
                  ((first
                    | (go_at_call_of 80 b; refine (clone_nil _ _ _).mono ?_; rintro e w4 ⟨a10, cap10, rfl, hb4⟩; have hz4 := hb4.size)
                    | (go_at_call_of 80 b'; refine (clone_nil _ _ _).mono ?_; rintro e w5 ⟨a11, cap11, rfl, hb5⟩; have hz5 := hb5.size)))
                all_goals go_wp2_with fail
                all_goals go_meet
                all_goals exact ⟨.inr ⟨_, _, _, _, rfl, rfl, hx0⟩, by (repeat' (first | (with_reducible exact Below.refl _ _) | (with_reducible assumption) | (with_reducible refine Below.drewN ?_ _) | (with_reducible refine Below.alloc ?_ ?_ _) | (with_reducible refine Below.drew ?_) | (with_reducible refine Below.setCell ?_ ?_ _) | (with_reducible refine Below.trans ?_ (Below.mono (by assumption) ?_)) | go_size | (with_reducible refine Nat.le_trans ?_ (Below.size (by assumption)))))⟩
        case rest =>
          have hm : ∃ m, xs.length - j = m := ⟨_, rfl⟩
          obtain ⟨m, hm⟩ := hm
          have HM := Lib.hid hm
          have hmb : m ≤ 8 := by omega
          rw [hm] at hcut
          clear hm
          obtain ⟨hc1, bk⟩ := hcut
          rcases hc1 with ⟨g10, c10, g11, c11, rfl, rfl, ha, hb', hne, k10, k11, m1, m2, hm1⟩ | ⟨a10, c10, a11, c11, rfl, rfl, hm0⟩
          · go_wp2_with fail
            refine (reverse_row g10 c10 m (xs.drop j) _ k10 m1.symm (by omega)).mono ?_
            rintro e w5 ⟨rfl, k10', hg5⟩
            have b5 := bk.grown hg5 bk.size (fun k hk => by cases hk; exact ha)
            have k11' := k11.grown hg5 (Ne.symm hne)
            go_wp2_with fail
            refine (reverse_row g11 c11 m (ws.drop j) _ k11' m2.symm (by omega)).mono ?_
            rintro e w6 ⟨rfl, k11'', hg6⟩
            have b6 := b5.grown hg6 b5.size (fun k hk => by cases hk; exact hb')
            have k10'' := k10'.grown hg6 hne
            have ht : TwoR wr w6 m (.slice (some ⟨g10, 0, none⟩) m c10) (.slice (some ⟨g11, 0, none⟩) m c11) (xs.drop j).reverse (ws.drop j).reverse :=
              ⟨.inl ⟨g10, _, g11, _, rfl, rfl, ha, hb', hne, k10'', k11'', by rw [List.length_reverse]; exact m1, by rw [List.length_reverse]; exact m2, hm1⟩, b6⟩
            clear k10 k11 k10' k11' k10'' k11'' hg5 hg6 b5 b6 ha hb' hne m1 m2 bk
            go_wp2_with fail
            have hAl : (xs.drop j).reverse.length = m := by rw [List.length_reverse, E1.out]; exact HM.out
            have bk := ht.2
            have bkw : Below w.heap.size w w6 := HB.out.trans (bk.mono hz)
            have RM1 := Lib.hid (fun V (hb : Below w6.heap.size w6 V) => miss_left b o c b' o' c' j xs ws p1 V (H.out.below (bkw.trans (hb.mono bkw.size))) (H'.out.below (bkw.trans (hb.mono bkw.size))) HV.out hlt HP1.out)
            have RM2 := Lib.hid (fun V (hb : Below w6.heap.size w6 V) => ht.miss hAl (vl_drop HV.out hlt) HP2.out hb)
            have K8 := Lib.hid (K8.out.below bk)
            have K5 := Lib.hid (K5.out.below bk)
            have zk := bkw.size
            have BK := Lib.hid bkw
            have l8 := K8.out.lt
            have hsd : w6.drew.heap.size = w6.heap.size := rfl
            clear ht hAl bk bkw
            go_upto_region 10 with fail
            go_cut [12] (fun s12 wx => ∃ g12, s12 = .pointer (some ⟨g12, 0, none⟩) ∧ w6.heap.size ≤ g12 ∧ Blk wx g12 29 (fc [x]) ∧ Below w6.heap.size w6 wx)
            case first =>
              go_region_held3 (fun w' => Below w6.heap.size w6 w' ∧ True) ((first | exact ⟨Below.refl _ _, trivial⟩ | exact ⟨by (repeat' (first | (with_reducible exact Below.refl _ _) | (with_reducible assumption) | (with_reducible refine Below.drewN ?_ _) | (with_reducible refine Below.alloc ?_ ?_ _) | (with_reducible refine Below.drew ?_) | (with_reducible refine Below.setCell ?_ ?_ _) | (with_reducible refine Below.trans ?_ (Below.mono (by assumption) ?_)) | go_size | (with_reducible refine Nat.le_trans ?_ (Below.size (by assumption))))), trivial⟩))
                ((first
                  | (go_at_call_of 69 b; have hS : Below w6.heap.size w6 _ ∧ True := (by assumption); refine (RM1.out _ hS.1).mono ?_; rintro e w7 ⟨rfl, hb7⟩; obtain ⟨hc7, hf7⟩ := bcell hb7; have hz7 := hb7.size; (try simp only [World.size_alloc, World.size_drew] at hz7))
                  | (go_at_call 69; have hS : Below w6.heap.size w6 _ ∧ True := (by assumption); refine (RM2.out _ hS.1).mono ?_; rintro e w8 ⟨rfl, hb8⟩; obtain ⟨hc8, hf8⟩ := bcell hb8; have hz8b := hb8.size; (try simp only [World.size_alloc] at hz8b); (try have y8 : w6.heap.size < w7.heap.size := (by omega)); (try have y8' : w6.heap.size < w8.heap.size := (by omega)))
                  | (go_at_call 82; refine (PW.out _).mono ?_; rintro e w9 ⟨rfl, hb9⟩; obtain ⟨hc9, hf9⟩ := bcell hb9; have hz9 := hb9.size; (try simp only [World.size_alloc] at hz9); (try have y9 : w6.heap.size < w8.heap.size := (by omega)); (try have y9' : w6.heap.size < w9.heap.size := (by omega)); (try have y9a : w7.heap.size < w8.heap.size := (by omega)); (try have y9b : w7.heap.size < w9.heap.size := (by omega)); (try have y9c : w8.heap.size < w9.heap.size := (by omega)))))
              all_goals go_wp2_with fail
              all_goals go_meet
              all_goals refine ⟨_, rfl, by omega, ?_, by (repeat' (first | (with_reducible exact Below.refl _ _) | (with_reducible assumption) | (with_reducible refine Below.drewN ?_ _) | (with_reducible refine Below.alloc ?_ ?_ _) | (with_reducible refine Below.drew ?_) | (with_reducible refine Below.setCell ?_ ?_ _) | (with_reducible refine Below.trans ?_ (Below.mono (by assumption) ?_)) | go_size | (with_reducible refine Nat.le_trans ?_ (Below.size (by assumption)))))⟩
              all_goals change Blk _ _ _ [.int .i64 (up x), .int .i64 (dn x)]
              all_goals (repeat' (first | ((with_reducible refine Blk.made' _ ?_ ?_) <;> first | rfl | (simp; done)) | (with_reducible refine Blk.two (x := .int .i64 0) (y := .int .i64 0) ?_ _ _) | (with_reducible refine Blk.drews ?_) | (with_reducible refine Blk.allocs ?_ _) | ((with_reducible refine Blk.others ?_ ?_); rotate_left; (focus (first | (simp; done) | (simp; omega)))) | (with_reducible refine Blk.below ?_ (by with_reducible assumption))))
            case' rest => skip
            obtain ⟨g12, rfl, hg12, k12, hb12⟩ := hcut
            have K8 := Lib.hid (K8.out.below hb12)
            have K5 := Lib.hid (K5.out.below hb12)
            have B12 := Lib.hid (BK.out.trans (hb12.mono zk))
            obtain ⟨V, hV⟩ : ∃ V, wc = V := ⟨_, rfl⟩
            rw [hV] at k12 K8 K5 B12
            rw [hV]
            have hzg : g8 < g12 := by omega
            clear hV hg12 RM1 RM2 BK hb12 hsd
            have zV := B12.out.size
            have l12 := k12.lt
            have l8' := K8.out.lt
            have x1 := k12.cell (j := 0) rfl
            have x2 := k12.cell (j := 1) rfl
            have d1 := K8.out.cell (j := 0) rfl
            have d2 := K8.out.cell (j := 1) rfl
            have f1 := K8.out.frozen 0
            have f2 := K8.out.frozen 1
            clear k12
            rcases Nat.eq_zero_or_pos j with hj0 | hj0
            · have t1 : ((j : Int) == 0) = true := by rw [hj0]; rfl
              have t2 : (j == 0) = true := by rw [hj0]; rfl
              have HJ0 := Lib.hid hj0
              clear hj0
              go_upto_region 12 with fail
              go_region
              all_goals go_wp2_with fail
              go_roundw
              case rel =>
                have ej : pkI T (j + 1 - 1) = j := by rw [Nat.add_sub_cancel, HJ0.out]; rfl
                refine ⟨j + 1, by omega, by go_num, by rw [ej], ⟨up x, dn x, fun _ => by rw [ej, HX.out]; exact ⟨rfl, rfl⟩, ?_⟩, ?_, ?_⟩
                · first | exact (K8.out.two _ _).drews | exact K8.out.two _ _
                · first | exact ((K5.out.others (by simp; omega)).others (by simp; omega)).drews | exact (K5.out.others (by simp; omega)).others (by simp; omega)
                · first | exact ((B12.out.setCell (by simp; omega) _).setCell (by simp; omega) _).drew | exact (B12.out.setCell (by simp; omega) _).setCell (by simp; omega) _
              case measure => simp [intOf]; omega
            · have t1 : ((j : Int) == 0) = false := by rw [beq_eq_false_iff_ne]; omega
              have t2 : (j == 0) = false := by rw [beq_eq_false_iff_ne]; omega
              obtain ⟨hu, hd⟩ := HUD.out hj0
              have hpl := pkI_le (T := T) (j - 1)
              obtain ⟨p, hp⟩ : ∃ p, pkI T (j - 1) = p := ⟨_, rfl⟩
              have s1 := SM.out p (by omega)
              have s2 := SM.out j hlt
              rw [HX.out] at s2
              rw [hp] at hu hd
              obtain ⟨be, hbe⟩ : ∃ be, T p = be := ⟨_, rfl⟩
              rw [hbe] at hu hd s1
              subst hu hd
              have s3 := sm_mul s2 s1
              have LW := Lib.hid (fun w => less_any x be w (by omega) (by omega))
              have hst : pkI T j = if x < be then j else p := by
                obtain ⟨i, rfl⟩ : ∃ i, j = i + 1 := ⟨j - 1, by omega⟩
                rw [Nat.add_sub_cancel] at hp
                simp only [pkI]
                rw [hp, hbe, HX.out]
              have HST := Lib.hid hst
              have HP := Lib.hid hp
              have HBE := Lib.hid hbe
              rw [hp]
              have hj1 : 1 ≤ j := hj0
              clear s1 s2 s3 hst hp hbe hpl hj0
              cases hcmp : decide (x < be) with
              | true =>
                go_upto_region 12 with (go_at_call 70; refine (LW.out _).mono ?_; rintro e w9 ⟨rfl, hb9⟩)
                have x1 := keepC hb9 x1
                have x2 := keepC hb9 x2
                have d1 := keepC hb9 d1
                have d2 := keepC hb9 d2
                have f1 := keepF hb9 l8' f1
                have f2 := keepF hb9 l8' f2
                have hz9 := hb9.size
                go_region
                all_goals go_wp2_with fail
                go_roundw
                case rel =>
                  have ej : pkI T (j + 1 - 1) = j := by rw [Nat.add_sub_cancel, HST.out, if_pos (of_decide_eq_true hcmp)]
                  refine ⟨j + 1, by omega, by go_num, by rw [ej], ⟨up x, dn x, fun _ => by rw [ej, HX.out]; exact ⟨rfl, rfl⟩, ?_⟩, ?_, ?_⟩
                  · first | exact ((K8.out.below hb9).two _ _).drews | exact (K8.out.below hb9).two _ _
                  · first | exact (((K5.out.below hb9).others (by simp; omega)).others (by simp; omega)).drews | exact ((K5.out.below hb9).others (by simp; omega)).others (by simp; omega)
                  · first | exact (((B12.out.trans (hb9.mono zV)).setCell (by simp; omega) _).setCell (by simp; omega) _).drew | exact ((B12.out.trans (hb9.mono zV)).setCell (by simp; omega) _).setCell (by simp; omega) _
                case measure => simp [intOf]; omega
              | false =>
                go_wp2_with (go_at_call 70; refine (LW.out _).mono ?_; rintro e w9 ⟨rfl, hb9⟩)
                go_roundw
                case rel =>
                  have ej : pkI T (j + 1 - 1) = p := by rw [Nat.add_sub_cancel, HST.out, if_neg (of_decide_eq_false hcmp)]
                  exact ⟨j + 1, by omega, by go_num, by rw [ej], ⟨up be, dn be, fun _ => by rw [ej, HBE.out]; exact ⟨rfl, rfl⟩, K8.out.below hb9⟩, K5.out.below hb9, B12.out.trans (hb9.mono zV)⟩
                case measure => simp [intOf]; omega
          · subst hm0
            go_wp2_with fail
            refine (reverse_nil a10 c10 _).mono ?_
            rintro e w5 ⟨rfl, hb5⟩
            go_wp2_with fail
            refine (reverse_nil a11 c11 _).mono ?_
            rintro e w6 ⟨rfl, hb6⟩
            have ht : TwoR wr w6 0 (.slice a10 0 c10) (.slice a11 0 c11) (xs.drop j).reverse (ws.drop j).reverse :=
              ⟨.inr ⟨_, _, _, _, rfl, rfl, rfl⟩, bk.trans ((hb5.trans (hb6.mono hb5.size)).mono bk.size)⟩
            clear hb5 hb6 bk
            go_wp2_with fail
            have hAl : (xs.drop j).reverse.length = 0 := by rw [List.length_reverse, E1.out]; exact HM.out
            have bk := ht.2
            have bkw : Below w.heap.size w w6 := HB.out.trans (bk.mono hz)
            have RM1 := Lib.hid (fun V (hb : Below w6.heap.size w6 V) => miss_left b o c b' o' c' j xs ws p1 V (H.out.below (bkw.trans (hb.mono bkw.size))) (H'.out.below (bkw.trans (hb.mono bkw.size))) HV.out hlt HP1.out)
            have RM2 := Lib.hid (fun V (hb : Below w6.heap.size w6 V) => ht.miss hAl (vl_drop HV.out hlt) HP2.out hb)
            have K8 := Lib.hid (K8.out.below bk)
            have K5 := Lib.hid (K5.out.below bk)
            have zk := bkw.size
            have BK := Lib.hid bkw
            have l8 := K8.out.lt
            have hsd : w6.drew.heap.size = w6.heap.size := rfl
            clear ht hAl bk bkw
            go_upto_region 10 with fail
            go_cut [12] (fun s12 wx => ∃ g12, s12 = .pointer (some ⟨g12, 0, none⟩) ∧ w6.heap.size ≤ g12 ∧ Blk wx g12 29 (fc [x]) ∧ Below w6.heap.size w6 wx)
            case first =>
              go_region_held3 (fun w' => Below w6.heap.size w6 w' ∧ True) ((first | exact ⟨Below.refl _ _, trivial⟩ | exact ⟨by (repeat' (first | (with_reducible exact Below.refl _ _) | (with_reducible assumption) | (with_reducible refine Below.drewN ?_ _) | (with_reducible refine Below.alloc ?_ ?_ _) | (with_reducible refine Below.drew ?_) | (with_reducible refine Below.setCell ?_ ?_ _) | (with_reducible refine Below.trans ?_ (Below.mono (by assumption) ?_)) | go_size | (with_reducible refine Nat.le_trans ?_ (Below.size (by assumption))))), trivial⟩))
                ((first
                  | (go_at_call_of 69 b; have hS : Below w6.heap.size w6 _ ∧ True := (by assumption); refine (RM1.out _ hS.1).mono ?_; rintro e w7 ⟨rfl, hb7⟩; obtain ⟨hc7, hf7⟩ := bcell hb7; have hz7 := hb7.size; (try simp only [World.size_alloc, World.size_drew] at hz7))
                  | (go_at_call 69; have hS : Below w6.heap.size w6 _ ∧ True := (by assumption); refine (RM2.out _ hS.1).mono ?_; rintro e w8 ⟨rfl, hb8⟩; obtain ⟨hc8, hf8⟩ := bcell hb8; have hz8b := hb8.size; (try simp only [World.size_alloc] at hz8b); (try have y8 : w6.heap.size < w7.heap.size := (by omega)); (try have y8' : w6.heap.size < w8.heap.size := (by omega)))
                  | (go_at_call 82; refine (PW.out _).mono ?_; rintro e w9 ⟨rfl, hb9⟩; obtain ⟨hc9, hf9⟩ := bcell hb9; have hz9 := hb9.size; (try simp only [World.size_alloc] at hz9); (try have y9 : w6.heap.size < w8.heap.size := (by omega)); (try have y9' : w6.heap.size < w9.heap.size := (by omega)); (try have y9a : w7.heap.size < w8.heap.size := (by omega)); (try have y9b : w7.heap.size < w9.heap.size := (by omega)); (try have y9c : w8.heap.size < w9.heap.size := (by omega)))))
              all_goals go_wp2_with fail
              all_goals go_meet
              all_goals refine ⟨_, rfl, by omega, ?_, by (repeat' (first | (with_reducible exact Below.refl _ _) | (with_reducible assumption) | (with_reducible refine Below.drewN ?_ _) | (with_reducible refine Below.alloc ?_ ?_ _) | (with_reducible refine Below.drew ?_) | (with_reducible refine Below.setCell ?_ ?_ _) | (with_reducible refine Below.trans ?_ (Below.mono (by assumption) ?_)) | go_size | (with_reducible refine Nat.le_trans ?_ (Below.size (by assumption)))))⟩
              all_goals change Blk _ _ _ [.int .i64 (up x), .int .i64 (dn x)]
              all_goals (repeat' (first | ((with_reducible refine Blk.made' _ ?_ ?_) <;> first | rfl | (simp; done)) | (with_reducible refine Blk.two (x := .int .i64 0) (y := .int .i64 0) ?_ _ _) | (with_reducible refine Blk.drews ?_) | (with_reducible refine Blk.allocs ?_ _) | ((with_reducible refine Blk.others ?_ ?_); rotate_left; (focus (first | (simp; done) | (simp; omega)))) | (with_reducible refine Blk.below ?_ (by with_reducible assumption))))
            case' rest => skip
            obtain ⟨g12, rfl, hg12, k12, hb12⟩ := hcut
            have K8 := Lib.hid (K8.out.below hb12)
            have K5 := Lib.hid (K5.out.below hb12)
            have B12 := Lib.hid (BK.out.trans (hb12.mono zk))
            obtain ⟨V, hV⟩ : ∃ V, wc = V := ⟨_, rfl⟩
            rw [hV] at k12 K8 K5 B12
            rw [hV]
            have hzg : g8 < g12 := by omega
            clear hV hg12 RM1 RM2 BK hb12 hsd
            have zV := B12.out.size
            have l12 := k12.lt
            have l8' := K8.out.lt
            have x1 := k12.cell (j := 0) rfl
            have x2 := k12.cell (j := 1) rfl
            have d1 := K8.out.cell (j := 0) rfl
            have d2 := K8.out.cell (j := 1) rfl
            have f1 := K8.out.frozen 0
            have f2 := K8.out.frozen 1
            clear k12
            rcases Nat.eq_zero_or_pos j with hj0 | hj0
            · have t1 : ((j : Int) == 0) = true := by rw [hj0]; rfl
              have t2 : (j == 0) = true := by rw [hj0]; rfl
              have HJ0 := Lib.hid hj0
              clear hj0
              go_upto_region 12 with fail
              go_region
              all_goals go_wp2_with fail
              go_roundw
              case rel =>
                have ej : pkI T (j + 1 - 1) = j := by rw [Nat.add_sub_cancel, HJ0.out]; rfl
                refine ⟨j + 1, by omega, by go_num, by rw [ej], ⟨up x, dn x, fun _ => by rw [ej, HX.out]; exact ⟨rfl, rfl⟩, ?_⟩, ?_, ?_⟩
                · first | exact (K8.out.two _ _).drews | exact K8.out.two _ _
                · first | exact ((K5.out.others (by simp; omega)).others (by simp; omega)).drews | exact (K5.out.others (by simp; omega)).others (by simp; omega)
                · first | exact ((B12.out.setCell (by simp; omega) _).setCell (by simp; omega) _).drew | exact (B12.out.setCell (by simp; omega) _).setCell (by simp; omega) _
              case measure => simp [intOf]; omega
            · have t1 : ((j : Int) == 0) = false := by rw [beq_eq_false_iff_ne]; omega
              have t2 : (j == 0) = false := by rw [beq_eq_false_iff_ne]; omega
              obtain ⟨hu, hd⟩ := HUD.out hj0
              have hpl := pkI_le (T := T) (j - 1)
              obtain ⟨p, hp⟩ : ∃ p, pkI T (j - 1) = p := ⟨_, rfl⟩
              have s1 := SM.out p (by omega)
              have s2 := SM.out j hlt
              rw [HX.out] at s2
              rw [hp] at hu hd
              obtain ⟨be, hbe⟩ : ∃ be, T p = be := ⟨_, rfl⟩
              rw [hbe] at hu hd s1
              subst hu hd
              have s3 := sm_mul s2 s1
              have LW := Lib.hid (fun w => less_any x be w (by omega) (by omega))
              have hst : pkI T j = if x < be then j else p := by
                obtain ⟨i, rfl⟩ : ∃ i, j = i + 1 := ⟨j - 1, by omega⟩
                rw [Nat.add_sub_cancel] at hp
                simp only [pkI]
                rw [hp, hbe, HX.out]
              have HST := Lib.hid hst
              have HP := Lib.hid hp
              have HBE := Lib.hid hbe
              rw [hp]
              have hj1 : 1 ≤ j := hj0
              clear s1 s2 s3 hst hp hbe hpl hj0
              cases hcmp : decide (x < be) with
              | true =>
                go_upto_region 12 with (go_at_call 70; refine (LW.out _).mono ?_; rintro e w9 ⟨rfl, hb9⟩)
                have x1 := keepC hb9 x1
                have x2 := keepC hb9 x2
                have d1 := keepC hb9 d1
                have d2 := keepC hb9 d2
                have f1 := keepF hb9 l8' f1
                have f2 := keepF hb9 l8' f2
                have hz9 := hb9.size
                go_region
                all_goals go_wp2_with fail
                go_roundw
                case rel =>
                  have ej : pkI T (j + 1 - 1) = j := by rw [Nat.add_sub_cancel, HST.out, if_pos (of_decide_eq_true hcmp)]
                  refine ⟨j + 1, by omega, by go_num, by rw [ej], ⟨up x, dn x, fun _ => by rw [ej, HX.out]; exact ⟨rfl, rfl⟩, ?_⟩, ?_, ?_⟩
                  · first | exact ((K8.out.below hb9).two _ _).drews | exact (K8.out.below hb9).two _ _
                  · first | exact (((K5.out.below hb9).others (by simp; omega)).others (by simp; omega)).drews | exact ((K5.out.below hb9).others (by simp; omega)).others (by simp; omega)
                  · first | exact (((B12.out.trans (hb9.mono zV)).setCell (by simp; omega) _).setCell (by simp; omega) _).drew | exact ((B12.out.trans (hb9.mono zV)).setCell (by simp; omega) _).setCell (by simp; omega) _
                case measure => simp [intOf]; omega
              | false =>
                go_wp2_with (go_at_call 70; refine (LW.out _).mono ?_; rintro e w9 ⟨rfl, hb9⟩)
                go_roundw
                case rel =>
                  have ej : pkI T (j + 1 - 1) = p := by rw [Nat.add_sub_cancel, HST.out, if_neg (of_decide_eq_false hcmp)]
                  exact ⟨j + 1, by omega, by go_num, by rw [ej], ⟨up be, dn be, fun _ => by rw [ej, HBE.out]; exact ⟨rfl, rfl⟩, K8.out.below hb9⟩, K5.out.below hb9, B12.out.trans (hb9.mono zV)⟩
                case measure => simp [intOf]; omega
      · have hjn : j = xs.length + 1 := by omega
        obtain ⟨hu, hd⟩ := HUD.out (by omega)
        have HP : pkI T (j - 1) = pkI T xs.length := by rw [hjn]; rfl
        rw [HP] at hu hd ⊢
        obtain ⟨p, hp⟩ : ∃ p, pkI T xs.length = p := ⟨_, rfl⟩
        rw [hp] at hu hd ⊢
        obtain ⟨be, hbe⟩ : ∃ be, T p = be := ⟨_, rfl⟩
        rw [hbe] at hu hd
        subst hu hd
        have HPH := Lib.hid hp
        have HBE := Lib.hid hbe
        have d1 := hk8.cell (j := 0) rfl
        have d2 := hk8.cell (j := 1) rfl
        have u1 := hk5.cell (j := 0) rfl
        have u2 := hk5.cell (j := 1) rfl
        have gg1 := hk5.frozen 0
        have gg2 := hk5.frozen 1
        have l5 := hk5.lt
        have z1 := (hk5.set 0 (.int .i64 (up be))).cell (j := 0) rfl
        have z2 := ((hk5.set 0 (.int .i64 (up be))).set 1 (.int .i64 (dn be))).cell (j := 1) rfl
        clear hk8 hk5 K8 K5 HP hp hbe hb hjn hud HUD
        go_wp2_with fail
        go_region
        all_goals go_wp2_with fail
        all_goals refine bodyPost_ret (v := .tuple #[.int .i64 ((p : Nat) : Int), .agg #[.int .i64 (up be), .int .i64 (dn be)], .bool true]) ?_ rfl ⟨by rw [HPH.out, HBE.out], ?_⟩
        all_goals first
          | (simp [results, Try.results47, go_sem, z1, z2]; done)
          | exact (((HB.out.setCell (Nat.le_refl _) _).setCell (Nat.le_refl _) _).drew)
          | (repeat' (first | (with_reducible exact Below.refl _ _) | (with_reducible assumption) | (with_reducible refine Below.drewN ?_ _) | (with_reducible refine Below.alloc ?_ ?_ _) | (with_reducible refine Below.drew ?_) | (with_reducible refine Below.setCell ?_ ?_ _) | (with_reducible refine Below.trans ?_ (Below.mono (by assumption) ?_)) | go_size | (with_reducible refine Nat.le_trans ?_ (Below.size (by assumption)))))

end Go.Proofs.Ytcmbfkdhfdiamaa
