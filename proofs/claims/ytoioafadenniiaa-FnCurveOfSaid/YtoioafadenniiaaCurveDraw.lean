/- The laws' draws of a curve's points. -/
import Derived.Test.YtoioafadenniiaaCurveGen
namespace Go.Proofs.Ytoioafadenniiaa
open Go.RowKit

set_option maxHeartbeats 1000000 in
theorem drawCurveOf_any (ad : Option Addr) (n c : Nat) (w : World) (h : CodeB w w.heap.size ad n) (hn : n ≤ 9223372036854775807) (hc : n ≤ c) :
    Calls Try.prog 32 #[.slice ad n c] w (Drawn w) := by
  have H := Lib.hid h
  clear h
  go_enter Try.func32, Try.ntmps32
  go_wp2_with (first
    | (go_at_call 61; refine (newReader_any ad n c _ H.out hn hc).mono ?_; rintro e w1 ⟨g, n', c', rfl, rfl, hr, hb1⟩; have hz1 := hb1.size; have hl1 := hr.blk.lt)
    | (go_at_call 62; refine (someCurve_any _ n' c' ad _ hr).mono ?_; rintro e w2 ⟨g1, c1, g2, c2, xs, ws, rfl, h1, h2, hx, hw, hxl, hwl, p', hp', hr', hg⟩))
  go_ret2
  exact ⟨g1, c1, g2, c2, xs, ws, rfl, by omega, by omega, hx, hw, hxl, hwl, hb1.grown hg hb1.size (fun k hk => by have := Option.some.inj hk; omega)⟩

/-- Two rows and a number. -/
def Drawn3 (w : World) (e : Ending) (w' : World) : Prop := ∃ g1 c1 g2 c2 xs ws, ∃ x : Int,
  e = .returned (.tuple #[.slice (some ⟨g1, 0, none⟩) xs.length c1, .slice (some ⟨g2, 0, none⟩) ws.length c2, .int .i64 x]) ∧ w.heap.size ≤ g1 ∧ w.heap.size ≤ g2 ∧ RowI w' g1 0 xs ∧ RowI w' g2 0 ws ∧
    (xs.length ≤ 9 ∧ xs.length ≤ c1) ∧ (ws.length ≤ 9 ∧ ws.length ≤ c2) ∧ Below w.heap.size w w'
theorem RowI.grownN {w w' : World} {b o g : Nat} {xs : List Int} (h : RowI w b o xs) (hb : w.grownBy w' (some g)) (hne : b ≠ g) : RowI w' b o xs :=
  ⟨Nat.lt_of_lt_of_le h.blk hb.size, fun k hk => (World.cell?_of_block (a := ⟨b, o + k, none⟩) (hb.block b h.blk (fun e => hne (Option.some.inj e)))).trans (h.cell k hk)⟩

set_option maxHeartbeats 2000000 in
theorem drawCurveAt_any (ad : Option Addr) (n c : Nat) (w : World) (h : CodeB w w.heap.size ad n) (hn : n ≤ 9223372036854775807) (hc : n ≤ c) :
    Calls Try.prog 21 #[.slice ad n c] w (Drawn3 w) := by
  have H := Lib.hid h
  clear h
  go_enter Try.func21, Try.ntmps21
  go_upto_region 3 with (first
    | (go_at_call 61; refine (newReader_any ad n c _ H.out hn hc).mono ?_; rintro e w1 ⟨g, n', c', rfl, rfl, hr, hb1⟩; have hz1 := hb1.size; have hl1 := hr.blk.lt)
    | (go_at_call 62; refine (someCurve_any _ n' c' ad _ hr).mono ?_; rintro e w2 ⟨g1, c1, g2, c2, xs, ws, rfl, h1, h2, hx, hw, hxl, hwl, p', hp', hr', hg⟩))
  obtain ⟨k, hk⟩ : ∃ k, xs.length = k := ⟨_, rfl⟩
  obtain ⟨k2, hk2⟩ : ∃ k, ws.length = k := ⟨_, rfl⟩
  rw [hk, hk2]
  have HK := Lib.hid hk
  have HK2 := Lib.hid hk2
  have HX := Lib.hid hx
  have HW := Lib.hid hw
  have HR := Lib.hid hr'
  have HB := Lib.hid (hb1.grown hg hb1.size (fun k hk => by have := Option.some.inj hk; omega))
  obtain ⟨hx1, hx2⟩ := hxl
  obtain ⟨hw1, hw2⟩ := hwl
  rw [hk] at hx1 hx2
  rw [hk2] at hw1 hw2
  have ng1 : g1 ≠ w.heap.size := by omega
  have ng2 : g2 ≠ w.heap.size := by omega
  have hg1 : w.heap.size ≤ g1 := by omega
  have hg2 : w.heap.size ≤ g2 := by omega
  clear hx hw hr' hg hk hk2 hr hb1
  go_upto_region 4 with (go_at_call 63; refine (pick_any _ n' c' ad p' 25 _ HR.out (by omega) (by omega) (by omega)).mono ?_; rintro e w3 ⟨v3, rfl, v30, v31, r3, h3⟩)
  have HX3 := Lib.hid (HX.out.grownN h3 ng1)
  have HW3 := Lib.hid (HW.out.grownN h3 ng2)
  have HR3 := Lib.hid r3
  have HB3 := Lib.hid (HB.out.grown h3 HB.out.size (fun k hk => by have := Option.some.inj hk; omega))
  clear HX HW HR HB r3 h3
  have TLA := Lib.hid (fun (wc : World) (y p : Int) (hp : p ≤ 70) (hr : Rdr wc w.heap.size ad n' c' p) (hx : RowI wc g1 0 xs) (hw : RowI wc g2 0 ws) (hb : Below w.heap.size w wc) => (by
    have hlt := hr.blk.lt
    have h8 := row_made wc [y, y, y, 13, -13]
    have hba : Below wc.heap.size wc (wc.alloc (.cells (ic [y, y, y, 13, -13]).toArray 3)) := below_alloc
    refine ⟨h8, hba, hlt, (one_any _ n' c' wc.heap.size 0 5 ad p [y, y, y, 13, -13] _ (hr.below hba) h8 (by omega) (by omega) (by simp) (by simp)).mono ?_⟩
    rintro e w4 ⟨k0, hk0, rfl, hr4, hg4⟩
    exact ⟨_, rfl, (hx.below hba).grownN hg4 ng1, (hw.below hba).grownN hg4 ng2, (hb.trans (hba.mono hb.size)).grown hg4 (by have := hb.size; have := hba.size; omega) (fun k hk => by have := Option.some.inj hk; omega)⟩ :
    RowI (wc.alloc (.cells (ic [y, y, y, 13, -13]).toArray 3)) wc.heap.size 0 [y, y, y, 13, -13] ∧ Below wc.heap.size wc (wc.alloc (.cells (ic [y, y, y, 13, -13]).toArray 3)) ∧ w.heap.size < wc.heap.size ∧
      Calls Try.prog 64 #[.pointer (some ⟨w.heap.size, 0, none⟩), .slice (some ⟨wc.heap.size, 0, none⟩) 5 5] (wc.alloc (.cells (ic [y, y, y, 13, -13]).toArray 3)) fun e w' => ∃ z : Int, e = .returned (.int .i64 z) ∧ RowI w' g1 0 xs ∧ RowI w' g2 0 ws ∧ Below w.heap.size w w'))
  by_cases h0 : 0 < k
  · have t1 : decide ((k : Int) > 0) = true := by simp; omega
    have t1' : decide ((0 : Int) < (k : Int)) = true := by simp; omega
    have t1n : decide (0 < k) = true := by simp; omega
    go_wp2_with (go_at_call 63; fail)
    refine (pick_any _ n' c' ad (p' + 1) 3 _ HR3.out (by omega) (by omega) (by omega)).mono ?_
    rintro e w4 ⟨v4, rfl, v40, v41, r4, h4⟩
    have HX4 := Lib.hid (HX3.out.grownN h4 ng1)
    have HW4 := Lib.hid (HW3.out.grownN h4 ng2)
    have HR4 := Lib.hid r4
    have HB4 := Lib.hid (HB3.out.grown h4 HB3.out.size (fun k hk => by have := Option.some.inj hk; omega))
    clear HX3 HW3 HR3 HB3 r4 h4
    by_cases e0 : v4 = 0
    · have t2 : (v4 == 0) = true := by rw [e0]; rfl
      go_wp2_with (go_at_call 63; fail)
      refine (pick_any _ n' c' ad (p' + 1 + 1) (k : Int) _ HR4.out (by omega) (by omega) (by omega)).mono ?_
      rintro e w5 ⟨v5, rfl, v50, v51, r5, h5⟩
      obtain ⟨q, rfl⟩ : ∃ q : Nat, v5 = q := ⟨v5.toNat, by omega⟩
      have X5 := HX4.out.grownN h5 ng1
      have c5 := X5.cell q (by have := HK.out; omega)
      rw [Nat.zero_add] at c5
      obtain ⟨y, hy⟩ : ∃ y, gi xs q = y := ⟨_, rfl⟩
      rw [hy] at c5
      have HX5 := Lib.hid X5
      have HW5 := Lib.hid (HW4.out.grownN h5 ng2)
      have HR5 := Lib.hid r5
      have HB5 := Lib.hid (HB4.out.grown h5 HB4.out.size (fun k hk => by have := Option.some.inj hk; omega))
      clear X5 HX4 HW4 HR4 HB4 r5 h5 hy
      have TL := TLA.out _ y (p' + 1 + 1 + 1) (by omega) HR5.out HX5.out HW5.out HB5.out
      obtain ⟨h8, hba, hlt, TL⟩ := TL
      go_wp2_with (go_at_call 64; fail)
      refine TL.mono ?_
      rintro e wz ⟨z, rfl, hX, hW, hBz⟩
      go_wp2_with fail
      refine bodyPost_ret (results_tmp3 rfl _ _ _) rfl ?_
      exact ⟨g1, c1, g2, c2, xs, ws, z, by rw [HK.out, HK2.out]; rfl, hg1, hg2, hX, hW, ⟨by rw [HK.out]; exact hx1, by rw [HK.out]; exact hx2⟩, ⟨by rw [HK2.out]; exact hw1, by rw [HK2.out]; exact hw2⟩, hBz⟩
    · have t2 : (v4 == 0) = false := by simpa using e0
      have TL := TLA.out _ (v3 - 12) (p' + 1 + 1) (by omega) HR4.out HX4.out HW4.out HB4.out
      obtain ⟨h8, hba, hlt, TL⟩ := TL
      go_wp2_with (go_at_call 64; fail)
      refine TL.mono ?_
      rintro e wz ⟨z, rfl, hX, hW, hBz⟩
      go_wp2_with fail
      refine bodyPost_ret (results_tmp3 rfl _ _ _) rfl ?_
      exact ⟨g1, c1, g2, c2, xs, ws, z, by rw [HK.out, HK2.out]; rfl, hg1, hg2, hX, hW, ⟨by rw [HK.out]; exact hx1, by rw [HK.out]; exact hx2⟩, ⟨by rw [HK2.out]; exact hw1, by rw [HK2.out]; exact hw2⟩, hBz⟩
  · have t1 : decide ((k : Int) > 0) = false := by simp; omega
    have t1' : decide ((0 : Int) < (k : Int)) = false := by simp; omega
    have t1n : decide (0 < k) = false := by simp; omega
    have TL := TLA.out _ (v3 - 12) (p' + 1) (by omega) HR3.out HX3.out HW3.out HB3.out
    obtain ⟨h8, hba, hlt, TL⟩ := TL
    go_wp2_with (go_at_call 64; fail)
    refine TL.mono ?_
    rintro e wz ⟨z, rfl, hX, hW, hBz⟩
    go_wp2_with fail
    refine bodyPost_ret (results_tmp3 rfl _ _ _) rfl ?_
    exact ⟨g1, c1, g2, c2, xs, ws, z, by rw [HK.out, HK2.out]; rfl, hg1, hg2, hX, hW, ⟨by rw [HK.out]; exact hx1, by rw [HK.out]; exact hx2⟩, ⟨by rw [HK2.out]; exact hw1, by rw [HK2.out]; exact hw2⟩, hBz⟩

end Go.Proofs.Ytoioafadenniiaa
