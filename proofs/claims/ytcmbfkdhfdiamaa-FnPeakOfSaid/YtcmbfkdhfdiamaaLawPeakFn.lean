/- The law laws.FnPeakOf returns true for all codes, and changes no memory that was there. -/
import Derived.Test.YtcmbfkdhfdiamaaPeak
import Derived.Test.YtcmbfkdhfdiamaaDraws
namespace Go.Proofs.Ytcmbfkdhfdiamaa
open Go.RowKit

theorem vlB_of' {xs ws : List Int} (h : Vl xs ws) : vlB xs ws = true := by
  have h0 := h.n0
  have h8 := h.n8
  have hw := h.nw
  simp only [vlB, Bool.and_eq_true]
  exact ⟨⟨⟨inB_iff.2 (by omega), by simp [hw]⟩, allB_iff.2 fun k hk => inB_iff.2 (h.x k hk)⟩, allB_iff.2 fun k hk => inB_iff.2 (h.w k (by omega))⟩
theorem vl_reverse {xs ws : List Int} (hv : Vl xs ws) : Vl xs.reverse ws.reverse := by
  rcases vl_drop hv (k := 0) (Nat.zero_le _) with ⟨h1, _⟩ | h
  · have := hv.n0
    have h2 : (xs.drop 0).reverse.length = 0 := by rw [h1]; rfl
    rw [List.length_reverse, List.drop_zero] at h2
    omega
  · rwa [List.drop_zero, List.drop_zero] at h
/-- 'turned' of a row that is not empty, its length by name. -/
theorem turned_as (b o c n : Nat) (xs : List Int) (w : World) (h : RowI w b o xs) (hn : xs.length = n) (hl : n ≤ 1048576) (h1 : 1 ≤ n) :
    Calls Try.prog 32 #[.slice (some ⟨b, o, none⟩) n c] w fun e w' => ∃ g cap, e = .returned (.slice (some ⟨g, 0, none⟩) n cap) ∧ w.heap.size ≤ g ∧ RowI w' g 0 xs.reverse ∧ Below w.heap.size w w' := by
  subst hn
  refine (turned_any b o c xs w h hl).mono ?_
  rintro e w' ⟨v, rfl, ho, hb⟩
  obtain ⟨g, cap, rfl, hg⟩ := ho.shape (by omega)
  rw [turned_eq] at ho
  exact ⟨g, cap, rfl, hg, ho.row, hb⟩
theorem riseMissV_as (b o c b' o' c' n nw : Nat) (xs ws : List Int) (p : Rat) (w : World) (h : RowI w b o xs) (h' : RowI w b' o' ws) (hn : xs.length = n) (hnw : ws.length = nw) (hv : Vl xs ws) (hp : missR xs ws = p) :
    Calls Try.prog 24 #[.slice (some ⟨b, o, none⟩) n c, .slice (some ⟨b', o', none⟩) nw c'] w
      fun e w' => e = .returned (.tuple #[.agg #[.int .i64 (up p), .int .i64 (dn p)], .bool true]) ∧ Below w.heap.size w w' := by
  have h8 := hv.n8
  have h7 := hv.nw
  have hvb := vlB_of' hv
  subst hn hnw hp
  have e1 : missU xs ws = up (missR xs ws) := by simp [missU, hvb]
  have e2 : missD xs ws = dn (missR xs ws) := by simp [missD, hvb]
  have := riseMiss_all b o c b' o' c' xs ws w h h' (by omega) (by omega)
  rw [e1, e2, hvb] at this
  exact this

set_option maxHeartbeats 8000000 in
set_option maxRecDepth 100000 in
theorem FnPeakOf_main (ad : Option Addr) (n c : Nat) (w : World) (h : CodeB w w.heap.size ad n) (hn : n ≤ 1048576) (hc : n ≤ c) :
    Calls Try.prog 12 #[.slice ad n c] w fun e w' => e = .returned (.bool true) ∧ Below w.heap.size w w' := by
  have H := Lib.hid h
  clear h
  go_enter Try.func12, Try.ntmps12
  go_wp2_with fail
  refine (drawPeakOf_any ad n c w H.out (by omega) hc).mono ?_
  rintro e w2 ⟨g1, c1, g2, c2, xs, ws, rfl, k1, k2, r1, r2, l1, l2, hb2⟩
  have R1 := Lib.hid r1
  have R2 := Lib.hid r2
  have z2 := hb2.size
  clear r1 r2
  obtain ⟨A, hA⟩ : ∃ A, pkA xs ws = A := ⟨_, rfl⟩
  obtain ⟨U, hU⟩ : ∃ U, pkU xs ws = U := ⟨_, rfl⟩
  obtain ⟨D, hD⟩ : ∃ D, pkD xs ws = D := ⟨_, rfl⟩
  have HA := Lib.hid hA
  have HU := Lib.hid hU
  have HD := Lib.hid hD
  clear hA hU hD
  go_wp2_with fail
  refine (peakOf_all g1 0 c1 g2 0 c2 xs ws _ R1.out R2.out (by omega) (by omega) (by omega) (by omega)).mono ?_
  rw [HA.out, HU.out, HD.out]
  rintro e w3 ⟨rfl, b3⟩
  have z3 := b3.size
  have R1 := Lib.hid (R1.out.below b3)
  have R2 := Lib.hid (R2.out.below b3)
  have B3 : Below w.heap.size w w3 := hb2.trans (b3.mono z2)
  clear b3 hb2
  go_wp2_with fail
  obtain ⟨v3, hv3⟩ : ∃ v3 : World, v3 = w3.alloc (.cells #[.int .i64 U, .int .i64 D] 29) := ⟨_, rfl⟩
  obtain ⟨g6, hg6⟩ : ∃ g6, w3.heap.size = g6 := ⟨_, rfl⟩
  have hk6 : Blk v3 g6 29 [.int .i64 U, .int .i64 D] := by rw [hv3, ← hg6]; exact Blk.made w3 #[.int .i64 U, .int .i64 D] 29
  have b3 : Below w3.heap.size w3 v3 := by rw [hv3]; exact below_alloc
  rw [hg6, ← hv3]
  have z4 := b3.size
  have R1 := Lib.hid (R1.out.below b3)
  have R2 := Lib.hid (R2.out.below b3)
  have B4 : Below w.heap.size w v3 := B3.trans (b3.mono (by omega))
  have K6 := Lib.hid hk6
  clear hv3 hk6 b3 B3
  refine (speakOf_all g1 0 c1 g2 0 c2 xs ws _ R1.out R2.out (by omega) (by omega) (by omega) (by omega)).mono ?_
  rw [HA.out, HU.out, HD.out]
  rintro e w5 ⟨rfl, b5⟩
  have z5 := b5.size
  have R1 := Lib.hid (R1.out.below b5)
  have R2 := Lib.hid (R2.out.below b5)
  have K6 := Lib.hid (K6.out.below b5)
  have B5 : Below w.heap.size w w5 := B4.trans (b5.mono (by omega))
  have x1 := K6.out.cell (j := 0) rfl
  have x2 := K6.out.cell (j := 1) rfl
  have l6 := K6.out.lt
  clear b5 B4
  cases hv : vlB xs ws with
  | false =>
    go_wp2_with fail
    go_ret
    exact ⟨rfl, B5.alloc B5.size _⟩
  | true =>
    have hvl := vl_of hv
    have hn8 := hvl.n8
    have hn0 := hvl.n0
    have HNW := Lib.hid hvl.nw
    have HV := Lib.hid hvl
    have HVR := Lib.hid (vl_reverse hvl)
    have hA2 : A = (pkI (peakT xs ws) xs.length : Nat) := by rw [← HA.out]; simp [pkA, hv]
    have hU2 : U = up (peakT xs ws (pkI (peakT xs ws) xs.length)) := by rw [← HU.out]; simp [pkU, hv]
    have hD2 : D = dn (peakT xs ws (pkI (peakT xs ws) xs.length)) := by rw [← HD.out]; simp [pkD, hv]
    have hle := pkI_le (T := peakT xs ws) xs.length
    have hsm := peak_sm hvl hle
    have hmn := fun j hj => pkI_min (T := peakT xs ws) xs.length j hj
    have hp := hmn xs.length (Nat.le_refl _)
    have hq := hmn 0 (Nat.zero_le _)
    have sp := peak_sm hvl (Nat.le_refl xs.length)
    have sq := peak_sm hvl (Nat.zero_le xs.length)
    rw [peak_last xs ws hvl.nw] at hp sp
    rw [peak_first] at hq sq
    obtain ⟨a, ha⟩ : ∃ a, pkI (peakT xs ws) xs.length = a := ⟨_, rfl⟩
    rw [ha] at hA2 hU2 hD2 hle hsm hp hq
    obtain ⟨M, hM⟩ : ∃ M, peakT xs ws a = M := ⟨_, rfl⟩
    rw [hM] at hU2 hD2 hsm hp hq
    subst hA2 hU2 hD2
    obtain ⟨p, hpe⟩ : ∃ p, missR xs ws = p := ⟨_, rfl⟩
    obtain ⟨q, hqe⟩ : ∃ q, missR xs.reverse ws.reverse = q := ⟨_, rfl⟩
    rw [hpe] at hp sp
    rw [hqe] at hq sq
    have t1 : decide (p < M) = false := by rw [decide_eq_false_iff_not]; grind
    have t2 : decide (q < M) = false := by rw [decide_eq_false_iff_not]; grind
    have spm := sm_mul sp hsm
    have sqm := sm_mul sq hsm
    have LP := Lib.hid (fun w => lessOf_any p M w (by omega))
    have LQ := Lib.hid (fun w => lessOf_any q M w (by omega))
    have HPE := Lib.hid hpe
    have HQE := Lib.hid hqe
    have HLN : xs.reverse.length = xs.length := List.length_reverse
    have HLW : ws.reverse.length = ws.length := List.length_reverse
    have HL1 := Lib.hid HLN
    have HL2 := Lib.hid HLW
    have hws8 : ws.length = xs.length := HNW.out
    have hw8 : ws.length ≤ 1048576 ∧ 1 ≤ ws.length := by omega
    clear hvl hsm hmn hp hq sp sq spm sqm hpe hqe ha hM HA HU HD HLN HLW hws8
    go_upto_region 8 with fail
    obtain ⟨v5, hv5⟩ : ∃ v5 : World, v5 = w5.alloc (.cells #[.int .i64 (up M), .int .i64 (dn M)] 29) := ⟨_, rfl⟩
    have b5 : Below w5.heap.size w5 v5 := by rw [hv5]; exact below_alloc
    have B6 : Below w.heap.size w v5 := B5.trans (b5.mono B5.size)
    have R1 := Lib.hid (R1.out.below b5)
    have R2 := Lib.hid (R2.out.below b5)
    have K6 := Lib.hid (K6.out.below b5)
    rw [← hv5]
    have z6 := b5.size
    clear hv5 b5 B5 x1 x2
    go_wp2_with fail
    refine (riseMissV_as g1 0 c1 g2 0 c2 xs.length ws.length xs ws p _ R1.out R2.out rfl rfl HV.out HPE.out).mono ?_
    rintro e w7 ⟨rfl, b7⟩
    have z7 := b7.size
    have R1 := Lib.hid (R1.out.below b7)
    have R2 := Lib.hid (R2.out.below b7)
    have K6 := Lib.hid (K6.out.below b7)
    have B7 : Below w.heap.size w w7 := B6.trans (b7.mono B6.size)
    clear b7 B6
    go_upto_region 9 with fail
    obtain ⟨v7, hv7⟩ : ∃ v7 : World, v7 = w7.alloc (.cells #[.int .i64 (up p), .int .i64 (dn p)] 29) := ⟨_, rfl⟩
    obtain ⟨g11, hg11⟩ : ∃ g11, w7.heap.size = g11 := ⟨_, rfl⟩
    have hk11 : Blk v7 g11 29 [.int .i64 (up p), .int .i64 (dn p)] := by rw [hv7, ← hg11]; exact Blk.made w7 #[.int .i64 (up p), .int .i64 (dn p)] 29
    have b7 : Below w7.heap.size w7 v7 := by rw [hv7]; exact below_alloc
    have B8 : Below w.heap.size w v7 := B7.trans (b7.mono B7.size)
    have R1 := Lib.hid (R1.out.below b7)
    have R2 := Lib.hid (R2.out.below b7)
    have K6 := Lib.hid (K6.out.below b7)
    have K11 := Lib.hid hk11
    rw [hg11, ← hv7]
    clear hv7 b7 B7 hk11
    go_wp2_with fail
    refine (turned_as g1 0 c1 xs.length xs _ R1.out rfl (by omega) (by omega)).mono ?_
    rintro e w9 ⟨g75, c75, rfl, hg75, r75, b9⟩
    have z9 := b9.size
    have R2 := Lib.hid (R2.out.below b9)
    have K6 := Lib.hid (K6.out.below b9)
    have K11 := Lib.hid (K11.out.below b9)
    have R75 := Lib.hid r75
    have B9 : Below w.heap.size w w9 := B8.trans (b9.mono B8.size)
    clear r75 b9 B8 hg75
    go_wp2_with fail
    refine (turned_as g2 0 c2 ws.length ws _ R2.out rfl hw8.1 hw8.2).mono ?_
    rintro e w10 ⟨g77, c77, rfl, hg77, r77, b10⟩
    have K6 := Lib.hid (K6.out.below b10)
    have K11 := Lib.hid (K11.out.below b10)
    have R75 := Lib.hid (R75.out.below b10)
    have R77 := Lib.hid r77
    have B10 : Below w.heap.size w w10 := B9.trans (b10.mono B9.size)
    clear r77 b10 B9 hg77
    go_wp2_with fail
    refine (riseMissV_as g75 0 c75 g77 0 c77 xs.length ws.length xs.reverse ws.reverse q _ R75.out R77.out HL1.out HL2.out HVR.out HQE.out).mono ?_
    rintro e w12 ⟨rfl, b12⟩
    have K6 := Lib.hid (K6.out.below b12)
    have K11 := Lib.hid (K11.out.below b12)
    have B12 : Below w.heap.size w w12 := B10.trans (b12.mono B10.size)
    clear b12 B10
    have m1 := K11.out.cell (j := 0) rfl
    have m2 := K11.out.cell (j := 1) rfl
    have n1 := K6.out.cell (j := 0) rfl
    have n2 := K6.out.cell (j := 1) rfl
    have l11 := K11.out.lt
    have l6b := K6.out.lt
    have q1 : decide ((0 : Int) ≤ (a : Int)) = true := by rw [decide_eq_true_eq]; omega
    have q2 : decide ((a : Int) ≤ (xs.length : Int)) = true := by rw [decide_eq_true_eq]; omega
    have q3 : decide (a ≤ xs.length) = true := by rw [decide_eq_true_eq]; omega
    go_upto_region 10 with fail
    obtain ⟨v12, hv12⟩ : ∃ v12 : World, v12 = w12.alloc (.cells #[.int .i64 (up q), .int .i64 (dn q)] 29) := ⟨_, rfl⟩
    obtain ⟨g13, hg13⟩ : ∃ g13, w12.heap.size = g13 := ⟨_, rfl⟩
    have hk13 : Blk v12 g13 29 [.int .i64 (up q), .int .i64 (dn q)] := by rw [hv12, ← hg13]; exact Blk.made w12 #[.int .i64 (up q), .int .i64 (dn q)] 29
    have b12 : Below w12.heap.size w12 v12 := by rw [hv12]; exact below_alloc
    have B13 : Below w.heap.size w v12 := B12.trans (b12.mono B12.size)
    have m1 := keepC b12 m1
    have m2 := keepC b12 m2
    have n1 := keepC b12 n1
    have n2 := keepC b12 n2
    have o1 := hk13.cell (j := 0) rfl
    have o2 := hk13.cell (j := 1) rfl
    rw [hg13, ← hv12]
    clear hv12 b12 B12 hk13
    go_wp2_with fail
    refine (LP.out _).mono ?_
    rintro e w14 ⟨rfl, b14⟩
    have n1 := keepC b14 n1
    have n2 := keepC b14 n2
    have o1 := keepC b14 o1
    have o2 := keepC b14 o2
    have B14 : Below w.heap.size w w14 := B13.trans (b14.mono B13.size)
    clear b14 B13
    go_wp2_with fail
    refine (LQ.out _).mono ?_
    rintro e w15 ⟨rfl, b15⟩
    have B15 : Below w.heap.size w w15 := B14.trans (b15.mono B14.size)
    clear b15 B14
    go_wp2_with fail
    go_ret
    exact ⟨rfl, B15⟩

set_option maxHeartbeats 1000000 in
theorem FnPeakOf_long (ad : Option Addr) (n c : Nat) (w : World) (h : 1048576 < n) (h1 : n ≤ 9223372036854775807) :
    Calls Try.prog 12 #[.slice ad n c] w fun e w' => e = .returned (.bool true) ∧ Below w.heap.size w w' := by
  go_enter Try.func12, Try.ntmps12
  go_wp2_with fail
  go_ret
  exact ⟨rfl, Below.refl _ _⟩

end Go.Proofs.Ytcmbfkdhfdiamaa
