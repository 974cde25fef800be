/- impl.foundSet. -/
import Derived.Test.YtjkadlmlkcanpaaHolds
namespace Go.Proofs.Ytjkadlmlkcanpaa
open Go.RowKit

set_option maxHeartbeats 4000000 in
theorem found_least (b o c : Nat) (L : List Int) (level : Int) (w : World) (h : RowI w b o L) (h1 : 1 ≤ L.length) (h6 : L.length ≤ 6) (hL : ∀ x ∈ L, 0 ≤ x ∧ x ≤ 1000) (_hl : 0 ≤ level ∧ level ≤ 1000) (kd : ByteArray) (hkd : kd.toList = [108, 101, 97, 115, 116]) :
    Calls Try.prog 75 #[.slice (some ⟨b, o, none⟩) L.length c, .int .i64 level, .string kd] w fun e w' => e = .returned (.bool (anyN (hdT (srt L) level false L.length) L.length)) ∧ Below w.heap.size w w' := by
  rw [hd_least h1]
  have tk : (kd.toList == [108, 101, 97, 115, 116]) = true := by rw [hkd]; rfl
  clear hkd
  have C := Lib.hid (sorted_any b o c L w h (by omega) h1)
  have bx := srt_in hL (k := 0) (by omega)
  obtain ⟨x, hx⟩ : ∃ x, gi (srt L) 0 = x := ⟨_, rfl⟩
  rw [hx] at bx ⊢
  have p1 := lvl6 bx (y := (L.length : Int)) (by omega)
  have q1 : IntKind.i64.wrap (x * (L.length : Int)) = x * (L.length : Int) := IntWalk.i64_in _ (by omega)
  have q4 : (0 : Int) < (L.length : Int) := by omega
  have HX := Lib.hid hx
  clear h hx p1
  go_enter Try.func75, Try.ntmps75
  go_wp2_with (go_at_call 85; refine C.out.mono ?_; rintro e w1 ⟨g, cap, rfl, ho, hb⟩; have HB := Lib.hid hb; have y1 := ho.row.cell 0 (by rw [srt_length]; omega); rw [Nat.zero_add, HX.out] at y1; clear ho hb)
  go_ret
  exact ⟨rfl, HB.out⟩

set_option maxHeartbeats 4000000 in
theorem found_each (b o c : Nat) (L : List Int) (level : Int) (w : World) (h : RowI w b o L) (h1 : 1 ≤ L.length) (h6 : L.length ≤ 6) (hL : ∀ x ∈ L, 0 ≤ x ∧ x ≤ 1000) (hl : 0 ≤ level ∧ level ≤ 1000) (kd : ByteArray) (hkd : kd.toList = [101, 97, 99, 104]) :
    Calls Try.prog 75 #[.slice (some ⟨b, o, none⟩) L.length c, .int .i64 level, .string kd] w fun e w' => e = .returned (.bool (anyN (hdT (srt L) level true L.length) L.length)) ∧ Below w.heap.size w w' := by
  rw [hd_each hl.1]
  have tk : (kd.toList == [108, 101, 97, 115, 116]) = false := by rw [hkd]; rfl
  clear hkd
  have C := Lib.hid (sorted_any b o c L w h (by omega) h1)
  obtain ⟨f, hf⟩ : ∃ f : Nat → Bool, (fun i => decide (gi (srt L) i * (L.length : Int) ≤ ((i : Int) + 1) * level)) = f := ⟨_, rfl⟩
  have HFE := Lib.hid (show ∀ i, f i = decide (gi (srt L) i * (L.length : Int) ≤ ((i : Int) + 1) * level) from fun i => by rw [← hf])
  rw [hf]
  clear h hf
  go_enter Try.func75, Try.ntmps75
  go_wp2_with (go_at_call 85; refine C.out.mono ?_; rintro e w1 ⟨g, cap, rfl, ho, hb⟩; have HB := Lib.hid hb; have HR := Lib.hid ho.row; clear ho hb)
  go_loop [24] (fun v24 => ∃ i : Nat, v24 = .int .i64 i ∧ i ≤ L.length ∧ anyN f i = false) (fun v24 => L.length - (intOf v24).toNat)
  case atStart => exact ⟨0, rfl, by omega, rfl⟩
  case round =>
    obtain ⟨i, rfl, hi, hff⟩ := hrel
    have HF := Lib.hid hff
    clear hff
    by_cases hil : i < L.length
    · have y1 := HR.out.cell i (by rw [srt_length]; exact hil)
      rw [Nat.zero_add] at y1
      have bx := srt_in hL hil
      have s1 := HFE.out i
      obtain ⟨x, hx⟩ : ∃ x, gi (srt L) i = x := ⟨_, rfl⟩
      rw [hx] at y1 bx s1
      have p1 := lvl6 bx (y := (L.length : Int)) (by omega)
      have p2 := lvl6 hl (y := (i : Int) + 1) (by omega)
      rw [Int.mul_comm level] at p2
      have q1 : IntKind.i64.wrap (x * (L.length : Int)) = x * (L.length : Int) := IntWalk.i64_in _ (by omega)
      have q2 : IntKind.i64.wrap ((i : Int) + 1) = (i : Int) + 1 := IntWalk.i64_in _ (by omega)
      have q3 : IntKind.i64.wrap (((i : Int) + 1) * level) = ((i : Int) + 1) * level := IntWalk.i64_in _ (by omega)
      obtain ⟨t1, ht1⟩ : ∃ t, decide (x * (L.length : Int) ≤ ((i : Int) + 1) * level) = t := ⟨_, rfl⟩
      rw [ht1] at s1
      have S1 := Lib.hid s1
      have q4 : (i : Int) < (L.length : Int) := by omega
      clear s1 hx p1 p2
      cases t1 with
      | true =>
        go_wp2_with fail
        go_ret
        have e : anyN f L.length = true := (anyN_iff _ _).2 ⟨i, hil, S1.out⟩
        exact ⟨by rw [e]; rfl, HB.out⟩
      | false =>
        go_wp2_with fail
        go_round
        case rel => exact ⟨i + 1, by go_num, by omega, by rw [anyN, HF.out, S1.out]; rfl⟩
        case measure => simp [intOf]; omega
    · have e : i = L.length := by omega
      subst e
      go_wp2_with fail
      go_ret
      exact ⟨by rw [HF.out]; rfl, HB.out⟩

end Go.Proofs.Ytjkadlmlkcanpaa
