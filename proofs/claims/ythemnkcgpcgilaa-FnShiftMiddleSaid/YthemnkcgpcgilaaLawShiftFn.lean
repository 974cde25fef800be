/- The law laws.FnShiftMiddle returns true for all codes, and changes no memory that was there. -/
import Derived.Test.YthemnkcgpcgilaaPicks
import Derived.Test.YthemnkcgpcgilaaMidP
namespace Go.Proofs.Ythemnkcgpcgilaa
open Go.RowKit

set_option maxHeartbeats 30000000 in
set_option maxRecDepth 100000 in
theorem FnShiftMiddle_main (ad : Option Addr) (n c : Nat) (w : World) (h : CodeB w w.heap.size ad n) (hn : n ≤ 1048576) (hc : n ≤ c) :
    Calls Try.prog 8 #[.slice ad n c] w fun e w' => e = .returned (.bool true) ∧ Below w.heap.size w w' := by
  have H := Lib.hid h
  clear h
  go_enter Try.func8, Try.ntmps8
  go_wp2_with fail
  refine (drawShiftMiddle_any ad n c w H.out (by omega) hc).mono ?_
  rintro e w2 ⟨g1, c1, g2, c2, xs, ws, rfl, r1, r2, ⟨l1, l1c⟩, ⟨l2, l2c⟩, b2⟩
  have R1 := Lib.hid r1
  have R2 := Lib.hid r2
  have z2 := b2.size
  have B2 := Lib.hid b2
  clear r1 r2 b2 H
  have C1 := shiftMiddle_any g1 0 c1 g2 0 c2 xs ws w2 R1.out R2.out (by omega) (by omega)
  have C2 := Lib.hid (fun w3 hb => sshiftMiddle_any g1 0 c1 g2 0 c2 xs ws w3 (R1.out.below hb) (R2.out.below hb) (by omega) (by omega))
  have C3 := Lib.hid (fun w3 hb => shiftMiddle_any g2 0 c2 g1 0 c1 ws xs w3 (R2.out.below hb) (R1.out.below hb) (by omega) (by omega))
  have C4 := Lib.hid (fun w3 hb => shiftMiddle_any g1 0 c1 g1 0 c1 xs xs w3 (R1.out.below hb) (R1.out.below hb) (by omega) (by omega))
  cases hv : vsB xs ws with
  | false =>
    have hm : smV xs ws = (0, false) := by simp [smV, hv]
    rw [hm] at C1 C2
    clear hm hv C3 C4
    go_wp2_with fail
    refine C1.mono ?_
    rintro e w3 ⟨rfl, b3⟩
    have z3 := b3.size
    clear C1
    go_wp2_with fail
    refine (C2.out w3 b3).mono ?_
    rintro e w4 ⟨rfl, b4⟩
    have z4 := b4.size
    have B4 := Lib.hid (B2.out.trans (b3.mono z2) |>.trans (b4.mono (by omega)))
    clear C2 b3 b4 B2
    go_wp2_with fail
    go_ret
    exact ⟨rfl, B4.out⟩
  | true =>
    have hm : smV xs ws = (midI (shf xs ws xs.length), true) := by simp [smV, hv]
    have hs := sm_swap hv
    have h0 := sm_self xs
    have hmb := midI_in (shf_bound (vs_of hv) xs.length (Nat.le_refl _)) (shf_pos (vs_of hv))
    obtain ⟨m, hme⟩ : ∃ m, midI (shf xs ws xs.length) = m := ⟨_, rfl⟩
    obtain ⟨t, ht⟩ : ∃ t, (smV xs xs).2 = t := ⟨_, rfl⟩
    rw [hme] at hm hs hmb
    rw [hm] at C1 C2
    rw [hs] at C3
    rw [h0, ht] at C4
    have e0 : (m != m) = false := by simp
    have e1 : (-m == -m) = true := by simp
    have q1 : IntKind.i64.wrap (-m) = -m := IntWalk.i64_in _ (by omega)
    clear hm hs h0 ht hme hv
    go_wp2_with fail
    refine C1.mono ?_
    rintro e w3 ⟨rfl, b3⟩
    have z3 := b3.size
    clear C1
    go_wp2_with fail
    refine (C2.out w3 b3).mono ?_
    rintro e w4 ⟨rfl, b4⟩
    have z4 := b4.size
    have b4' := b3.trans (b4.mono z3)
    clear b3 b4 C2
    go_wp2_with fail
    refine (C3.out w4 b4').mono ?_
    rintro e w5 ⟨rfl, b5⟩
    have z5 := b5.size
    have b5' := b4'.trans (b5.mono (by omega))
    clear b4' b5 C3
    go_wp2_with fail
    refine (C4.out w5 b5').mono ?_
    rintro e w6 ⟨rfl, b6⟩
    have B6 := Lib.hid (B2.out.trans ((b5'.trans (b6.mono (by omega))).mono (by omega)))
    clear b5' b6 C4 B2
    go_wp2_with fail
    go_ret
    exact ⟨rfl, B6.out⟩

set_option maxHeartbeats 1000000 in
theorem FnShiftMiddle_long (ad : Option Addr) (la ca : Nat) (w : World) (h : 1048576 < la) (h1 : la ≤ 9223372036854775807) :
    Calls Try.prog 8 #[.slice ad la ca] w fun e w' => e = .returned (.bool true) ∧ Below w.heap.size w w' := by
  go_enter Try.func8, Try.ntmps8
  go_wp2_with fail
  go_ret
  exact ⟨rfl, Below.refl _ _⟩

end Go.Proofs.Ythemnkcgpcgilaa
