/- The law laws.FnMiddleOf returns true for all codes, and changes no memory that was there. -/
import Derived.Test.YthemnkcgpcgilaaPicks
import Derived.Test.YthemnkcgpcgilaaNeg
namespace Go.Proofs.Ythemnkcgpcgilaa
open Go.RowKit

set_option maxHeartbeats 30000000 in
set_option maxRecDepth 100000 in
theorem FnMiddleOf_main (ad : Option Addr) (n c : Nat) (w : World) (h : CodeB w w.heap.size ad n) (hn : n ≤ 1048576) (hc : n ≤ c) :
    Calls Try.prog 7 #[.slice ad n c] w fun e w' => e = .returned (.bool true) ∧ Below w.heap.size w w' := by
  have H := Lib.hid h
  clear h
  go_enter Try.func7, Try.ntmps7
  go_wp2_with fail
  refine (drawMiddleOf_any ad n c w H.out (by omega) hc).mono ?_
  rintro e w2 ⟨g1, c1, xs, rfl, r1, l1, l1c, b2⟩
  have R1 := Lib.hid r1
  have z2 := b2.size
  have B2 := Lib.hid b2
  clear r1 b2 H
  have C1 := middleOf_any g1 0 c1 xs w2 R1.out (by omega)
  have C2 := Lib.hid (fun w3 hb => smiddleOf_any g1 0 c1 xs w3 (R1.out.below hb) (by omega))
  cases hv : (vdB xs && decide (xs.length ≠ 0)) with
  | false =>
    have hm : midV xs = (0, false) := by simp only [midV, hv]; rfl
    rw [hm] at C1 C2
    clear hm hv
    go_wp2_with fail
    refine C1.mono ?_
    rintro e w3 ⟨rfl, b3⟩
    have z3 := b3.size
    clear C1
    go_wp2_with fail
    refine (C2.out w3 b3).mono ?_
    rintro e w4 ⟨rfl, b4⟩
    have z4 := b4.size
    have B4 := Lib.hid (B2.out.trans (b3.mono z2) |>.trans (b4.mono (by omega)))
    clear C2 b3 b4 B2
    go_wp2_with fail
    go_ret
    exact ⟨rfl, B4.out⟩
  | true =>
    have hm : midV xs = (midI xs, true) := by simp only [midV, hv]; rfl
    simp only [Bool.and_eq_true, decide_eq_true_eq] at hv
    obtain ⟨hv, hn0⟩ := hv
    have hd := vd_of hv
    have h10 := hd.n10
    have hlow := lower_le (xs := xs) (by omega)
    have hupp := upper_le (xs := xs) (by omega)
    have hmn := midV_ng hv (by omega)
    have hmb : -400 ≤ midI xs ∧ midI xs ≤ 400 := by
      have a1 := srt_bound hd.x ((xs.length - 1) / 2) (by omega)
      have a2 := srt_bound hd.x (xs.length / 2) (by omega)
      unfold midI
      omega
    obtain ⟨m, hme⟩ : ∃ m, midI xs = m := ⟨_, rfl⟩
    rw [hme] at hm hlow hupp hmn hmb
    rw [hm] at C1 C2
    have HX := Lib.hid hd.x
    have HL := Lib.hid hlow
    have HU := Lib.hid hupp
    have HMN := Lib.hid hmn
    have e0 : (m != m) = false := by simp
    clear hm hv hd hme hlow hupp hmn
    go_wp2_with fail
    refine C1.mono ?_
    rintro e w3 ⟨rfl, b3⟩
    have z3 := b3.size
    clear C1
    go_wp2_with fail
    refine (C2.out w3 b3).mono ?_
    rintro e w4 ⟨rfl, b4⟩
    have z4 := b4.size
    have B4 := Lib.hid (B2.out.trans (b3.mono z2) |>.trans (b4.mono (by omega)))
    have R4 := Lib.hid ((R1.out.below b3).below b4)
    clear C2 b3 b4 B2 R1
    go_wp2_with fail
    go_loop [8, 9, 10] (fun v8 v9 v10 => ∃ k : Nat, v10 = .int .i64 k ∧ k ≤ xs.length ∧ v8 = .int .i64 (cpI (fun x => decide (2 * x < m)) xs k : Nat) ∧ v9 = .int .i64 (cpI (fun x => decide (m < 2 * x)) xs k : Nat)) (fun _ _ v10 => xs.length - (intOf v10).toNat)
    case atStart => exact ⟨0, rfl, by omega, rfl, rfl⟩
    case round =>
      obtain ⟨k, rfl, hk, rfl, rfl⟩ := hrel
      by_cases hlt : k < xs.length
      · have y1 := R4.out.cell k hlt
        have hxk := HX.out k hlt
        have s1 := cpI_step (fun x => decide (2 * x < m)) hlt
        have s2 := cpI_step (fun x => decide (m < 2 * x)) hlt
        have u1 := cpI_le (fun x => decide (2 * x < m)) xs k
        have u2 := cpI_le (fun x => decide (m < 2 * x)) xs k
        obtain ⟨x, hxe⟩ : ∃ x, gi xs k = x := ⟨_, rfl⟩
        rw [hxe, Nat.zero_add] at y1
        rw [hxe] at hxk s1 s2
        obtain ⟨p1, hp1⟩ : ∃ p, cpI (fun x => decide (2 * x < m)) xs k = p := ⟨_, rfl⟩
        obtain ⟨p2, hp2⟩ : ∃ p, cpI (fun x => decide (m < 2 * x)) xs k = p := ⟨_, rfl⟩
        rw [hp1] at s1 u1
        rw [hp2] at s2 u2
        rw [hp1, hp2]
        have q1 : IntKind.i64.wrap (2 * x) = 2 * x := IntWalk.i64_in _ (by omega)
        have q2 : IntKind.i64.wrap ((p1 : Int) + 1) = ((p1 + 1 : Nat) : Int) := by rw [IntWalk.i64_in _ (by omega)]; omega
        have q3 : IntKind.i64.wrap ((p2 : Int) + 1) = ((p2 + 1 : Nat) : Int) := by rw [IntWalk.i64_in _ (by omega)]; omega
        have S1 := Lib.hid s1
        have S2 := Lib.hid s2
        clear s1 s2 hp1 hp2 hxe
        by_cases t1 : 2 * x < m
        · have t1' : decide (2 * x < m) = true := by simpa using t1
          have t2' : decide (m < 2 * x) = false := by simp; omega
          rw [t1'] at S1
          rw [t2'] at S2
          clear t1
          go_wp2_with fail
          go_round
          case rel => exact ⟨k + 1, by go_num, by omega, by rw [S1.out]; rfl, by rw [S2.out]; rfl⟩
          case measure => simp [intOf]; omega
        · have t1' : decide (2 * x < m) = false := by simpa using t1
          rw [t1'] at S1
          by_cases t2 : m < 2 * x
          · have t2' : decide (m < 2 * x) = true := by simpa using t2
            rw [t2'] at S2
            clear t1 t2
            go_wp2_with fail
            go_round
            case rel => exact ⟨k + 1, by go_num, by omega, by rw [S1.out]; rfl, by rw [S2.out]; rfl⟩
            case measure => simp [intOf]; omega
          · have t2' : decide (m < 2 * x) = false := by simpa using t2
            rw [t2'] at S2
            clear t1 t2
            go_wp2_with fail
            go_round
            case rel => exact ⟨k + 1, by go_num, by omega, by rw [S1.out]; rfl, by rw [S2.out]; rfl⟩
            case measure => simp [intOf]; omega
      · have e : k = xs.length := by omega
        subst e
        have C3 := Lib.hid (negated_any g1 0 c1 xs w4 R4.out (by omega) (fun k hk => by have := HX.out k hk; omega))
        obtain ⟨p1, hp1⟩ : ∃ p, cpI (fun x => decide (2 * x < m)) xs xs.length = p := ⟨_, rfl⟩
        obtain ⟨p2, hp2⟩ : ∃ p, cpI (fun x => decide (m < 2 * x)) xs xs.length = p := ⟨_, rfl⟩
        have hl1 := HL.out
        have hl2 := HU.out
        rw [hp1] at hl1
        rw [hp2] at hl2
        rw [hp1, hp2]
        have q1 : IntKind.i64.wrap (2 * (p1 : Int)) = 2 * (p1 : Int) := IntWalk.i64_in _ (by omega)
        have q2 : IntKind.i64.wrap (2 * (p2 : Int)) = 2 * (p2 : Int) := IntWalk.i64_in _ (by omega)
        have q3 : IntKind.i64.wrap (-m) = -m := IntWalk.i64_in _ (by omega)
        have t1 : decide (2 * (p1 : Int) ≤ (xs.length : Int)) = true := by simp; omega
        have t2 : decide (2 * (p2 : Int) ≤ (xs.length : Int)) = true := by simp; omega
        have t3 : (-m == -m) = true := by simp
        clear hp1 hp2 HL HU
        go_wp2_with (first
          | (go_at_call 28; refine C3.out.mono ?_; rintro e w5 ⟨g5, c5, rfl, ho, hb5⟩)
          | (go_at_call 17; have C4 := middleOf_any g5 0 c5 (ngI xs) w5 ho.row (by rw [ngI_length]; omega); rw [ngI_length, HMN.out] at C4; refine C4.mono ?_; clear C4; rintro e w6 ⟨rfl, hb6⟩))
        go_ret
        exact ⟨rfl, B4.out.trans (hb5.mono (by omega)) |>.trans (hb6.mono (by have := hb5.size; omega))⟩

set_option maxHeartbeats 1000000 in
theorem FnMiddleOf_long (ad : Option Addr) (la ca : Nat) (w : World) (h : 1048576 < la) (h1 : la ≤ 9223372036854775807) :
    Calls Try.prog 7 #[.slice ad la ca] w fun e w' => e = .returned (.bool true) ∧ Below w.heap.size w w' := by
  go_enter Try.func7, Try.ntmps7
  go_wp2_with fail
  go_ret
  exact ⟨rfl, Below.refl _ _⟩

end Go.Proofs.Ythemnkcgpcgilaa
