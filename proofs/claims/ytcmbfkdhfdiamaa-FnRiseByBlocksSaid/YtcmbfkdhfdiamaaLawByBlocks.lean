/- The law laws.FnRiseByBlocks returns true for all codes, and changes no memory that was there. -/
import Derived.Test.YtcmbfkdhfdiamaaHullAll
import Derived.Test.YtcmbfkdhfdiamaaMissP
import Derived.Test.YtcmbfkdhfdiamaaDraws
namespace Go.Proofs.Ytcmbfkdhfdiamaa
open Go.RowKit

set_option maxHeartbeats 8000000 in
set_option maxRecDepth 100000 in
theorem FnRiseByBlocks_main (ad : Option Addr) (n c : Nat) (w : World) (h : CodeB w w.heap.size ad n) (hn : n ≤ 1048576) (hc : n ≤ c) :
    Calls Try.prog 11 #[.slice ad n c] w fun e w' => e = .returned (.bool true) ∧ Below w.heap.size w w' := by
  have H := Lib.hid h
  clear h
  go_enter Try.func11, Try.ntmps11
  go_wp2_with fail
  refine (drawRiseByBlocks_any ad n c w H.out (by omega) hc).mono ?_
  rintro e w2 ⟨g1, c1, g2, c2, xs, ws, rfl, k1, k2, r1, r2, l1, l2, hb2⟩
  have R1 := Lib.hid r1
  have R2 := Lib.hid r2
  have z2 := hb2.size
  clear r1 r2
  obtain ⟨F, hF⟩ : ∃ F, rbbV xs ws = F := ⟨_, rfl⟩
  obtain ⟨m, hm⟩ : ∃ m, F.length = m := ⟨_, rfl⟩
  have hm2 : m ≤ 1048576 := by rw [← hm, ← hF]; exact rbbV_le xs ws (by omega)
  have HF := Lib.hid hF
  have HM := Lib.hid hm
  clear hF hm
  go_wp2_with fail
  refine (riseByBlocks_all g1 0 c1 g2 0 c2 xs ws _ R1.out R2.out (by omega) (by omega)).mono ?_
  rintro e w3 ⟨v3, rfl, m3, b3⟩
  rw [HF.out, HM.out] at m3
  have M3 := Lib.hid m3
  have z3 := b3.size
  have R1 := Lib.hid (R1.out.below b3)
  have R2 := Lib.hid (R2.out.below b3)
  have B3 : Below w.heap.size w w3 := hb2.trans (b3.mono z2)
  clear b3 hb2 m3
  go_wp2_with fail
  refine (sriseByBlocks_all g1 0 c1 g2 0 c2 xs ws _ R1.out R2.out (by omega) (by omega)).mono ?_
  rintro e w4 ⟨v4, rfl, m4, b4⟩
  rw [HF.out, HM.out] at m4
  have z4 := b4.size
  have R1 := Lib.hid (R1.out.below b4)
  have R2 := Lib.hid (R2.out.below b4)
  have M3 := Lib.hid (M3.out.below b4)
  have B4 : Below w.heap.size w w4 := B3.trans (b4.mono (by omega))
  clear b4 B3
  go_wp2_with fail
  refine (equalFracs_any _ _ _ _ m F _ M3.out m4 HM.out hm2).mono ?_
  rintro e w5 ⟨rfl, b5⟩
  have z5 := b5.size
  have R1 := Lib.hid (R1.out.below b5)
  have R2 := Lib.hid (R2.out.below b5)
  have M3 := Lib.hid (M3.out.below b5)
  have B5 : Below w.heap.size w w5 := B4.trans (b5.mono (by omega))
  clear b5 B4 m4
  cases hv : vlB xs ws with
  | false =>
    have hF0 : F = [] := by rw [← HF.out]; simp [rbbV, hv]
    have hm0 : m = 0 := by rw [← HM.out, hF0]; rfl
    subst hm0
    obtain ⟨ao, ac, rfl⟩ : ∃ ao ac, v3 = .slice ao 0 ac := by
      rcases M3.out with ⟨h, _, _⟩ | ⟨g, cap, h, _, _⟩
      · exact ⟨none, 0, h⟩
      · exact ⟨_, _, h⟩
    go_wp2_with fail
    refine (sriseByBlocks_all g1 0 c1 g2 0 c2 xs ws _ R1.out R2.out (by omega) (by omega)).mono ?_
    rintro e w6 ⟨v6, rfl, m6, b6⟩
    rw [HF.out, HM.out] at m6
    have M3 := Lib.hid (M3.out.below b6)
    have B6 : Below w.heap.size w w6 := B5.trans (b6.mono (by omega))
    clear b6 B5
    go_wp2_with fail
    refine (equalFracs_any _ _ _ _ 0 F _ M3.out m6 HM.out (by omega)).mono ?_
    rintro e w7 ⟨rfl, b7⟩
    have B7 : Below w.heap.size w w7 := B6.trans (b7.mono B6.size)
    clear b7 B6 m6
    go_wp2_with fail
    go_ret
    exact ⟨rfl, B7⟩
  | true =>
    have hvl := vl_of hv
    have hn8 := hvl.n8
    have hn0 := hvl.n0
    have HNW := Lib.hid hvl.nw
    have hd := poolR_dec1 (xs := xs) (ws := ws)
    have h0 := poolR_first (xs := xs) (ws := ws) hn0
    have hFG : F = tab (bmq xs ws (poolR xs ws xs.length)) xs.length := by rw [← HF.out]; simp only [rbbV, hv, if_true]; rfl
    have hmx : m = xs.length := by rw [← HM.out, hFG, tab_length]
    have hsm : SmAll 1200 40 F := by rw [hFG]; exact SmAll.tab fun j hj => bmq_sm hvl hd h0 hj
    have hgq : ∀ j, j < xs.length → gq F j = bestQ xs ws j := fun j hj => by rw [hFG, gq_tab hj, best_eq hvl hj]
    subst hmx
    have SM := Lib.hid hsm
    have GQ := Lib.hid hgq
    have HV := Lib.hid hvl
    have t1 : ((xs.length : Int) == 0) = false := by rw [beq_eq_false_iff_ne]; omega
    clear hFG hsm hgq hvl hd h0
    obtain ⟨g3, cap3, rfl, hg3, hk3⟩ := M3.out.shape (by omega)
    clear hk3
    go_wp2_with fail
    refine (riseByMeans_all g1 0 c1 g2 0 c2 xs ws _ R1.out R2.out (by omega) (by omega)).mono ?_
    rintro e w6 ⟨v6, rfl, m6, b6⟩
    rw [rbmV_eq, HF.out, HM.out] at m6
    have z6 := b6.size
    have R1 := Lib.hid (R1.out.below b6)
    have R2 := Lib.hid (R2.out.below b6)
    have M3 := Lib.hid (M3.out.below b6)
    have B6 : Below w.heap.size w w6 := B5.trans (b6.mono (by omega))
    clear b6 B5
    go_wp2_with fail
    refine (equalFracs_any _ _ _ _ _ F _ m6 M3.out HM.out hm2).mono ?_
    rintro e w7 ⟨rfl, b7⟩
    have z7 := b7.size
    have R1 := Lib.hid (R1.out.below b7)
    have R2 := Lib.hid (R2.out.below b7)
    have M3 := Lib.hid (M3.out.below b7)
    have B7 : Below w.heap.size w w7 := B6.trans (b7.mono (by omega))
    clear b7 B6 m6
    go_wp2_with fail
    refine (riseByHull_all g1 0 c1 g2 0 c2 xs ws _ R1.out R2.out (by omega) (by omega)).mono ?_
    rintro e w8 ⟨v8, rfl, m8, b8⟩
    rw [HF.out, HM.out] at m8
    have z8 := b8.size
    have M3 := Lib.hid (M3.out.below b8)
    have B8 : Below w.heap.size w w8 := B7.trans (b8.mono (by omega))
    clear b8 B7
    go_wp2_with fail
    refine (equalFracs_any _ _ _ _ _ F _ m8 M3.out HM.out hm2).mono ?_
    rintro e w9 ⟨rfl, b9⟩
    have z9 := b9.size
    have M3 := Lib.hid (M3.out.below b9)
    have B9 : Below w.heap.size w w9 := B8.trans (b9.mono (by omega))
    clear b9 B8 m8
    go_wp2_with fail
    refine (rising_true g3 cap3 _ F _ (by obtain ⟨g, cap, e, _, hk⟩ := M3.out.shape (by omega); cases e; exact hk) HM.out hm2 SM.out (fun k hk => by rw [GQ.out k (by omega), GQ.out (k + 1) hk]; exact best_mono hk)).mono ?_
    rintro e w10 ⟨rfl, b10⟩
    have B10 : Below w.heap.size w w10 := B9.trans (b10.mono (by omega))
    go_wp2_with fail
    go_ret
    exact ⟨rfl, B10⟩

set_option maxHeartbeats 1000000 in
theorem FnRiseByBlocks_long (ad : Option Addr) (n c : Nat) (w : World) (h : 1048576 < n) (h1 : n ≤ 9223372036854775807) :
    Calls Try.prog 11 #[.slice ad n c] w fun e w' => e = .returned (.bool true) ∧ Below w.heap.size w w' := by
  go_enter Try.func11, Try.ntmps11
  go_wp2_with fail
  go_ret
  exact ⟨rfl, Below.refl _ _⟩

end Go.Proofs.Ytcmbfkdhfdiamaa
