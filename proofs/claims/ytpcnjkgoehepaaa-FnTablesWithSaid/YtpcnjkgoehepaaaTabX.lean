/- impl.TablesWith: walked. -/
import Derived.Test.YtpcnjkgoehepaaaTabW
namespace Go.Proofs.Ytpcnjkgoehepaaa
open Go.RowKit

set_option maxHeartbeats 4000000 in
theorem tw_impl (R : List Nat) (ys : List Int) (br o1 cr bc oc cc : Nat) (w : World) (h : TIn w R ys br o1 cr bc oc cc) :
    Calls Try.prog 7 #[.slice (some ⟨br, o1, none⟩) R.length cr, .slice (some ⟨bc, oc, none⟩) ys.length cc] w
      fun e w' => e = .returned (.tuple #[.int .i64 (twV R ys).1, .int .i64 (twV R ys).2]) ∧ Below w.heap.size w w' := by
  have I1 := fun W => in_any (R.length : Int) 1 3 W
  have I2 := fun W => in_any (ys.length : Int) 1 3 W
  have t1 := h.n1
  have t2 := h.n3
  have t3 := h.m1
  have t4 := h.m3
  rw [show inB (R.length : Int) 1 3 = true from inB_iff.2 ⟨by omega, by omega⟩] at I1
  rw [show inB (ys.length : Int) 1 3 = true from inB_iff.2 ⟨by omega, by omega⟩] at I2
  have V1 := allIn_any 0 6 br o1 cr (iN R) w h.row (by rw [iN_length]; omega)
  rw [show allB (iN R) 0 6 = true from allB_iN h.r6, iN_length] at V1
  have V2 := fun W (hW : Below w.heap.size w W) => allIn_any 0 6 bc oc cc ys W (h.col.below hW) (by omega)
  have S1 := fun W (hW : Below w.heap.size w W) => isum_s br o1 cr (iN R) W (h.row.below hW) (by rw [iN_length]; omega) (fun i hi => by have := gi_iN_le h.r6 i (by rw [iN_length] at hi; exact hi); omega)
  rw [iN_length, sX_iN] at S1
  have S2 := fun W (hW : Below w.heap.size w W) => isum_s bc oc cc ys W (h.col.below hW) (by omega) h.bd
  cases hb : allB ys 0 6 with
  | false =>
    have e : twV R ys = (-1, -1) := if_neg (by rw [hb]; simp)
    rw [e]
    rw [hb] at V2
    obtain ⟨nr, hnr⟩ : ∃ nr, R.length = nr := ⟨_, rfl⟩
    obtain ⟨n, hn⟩ : ∃ n, ys.length = n := ⟨_, rfl⟩
    rw [hnr] at I1 V1 t1 t2 ⊢
    rw [hn] at I2 V2 t3 t4 ⊢
    have HI1 := Lib.hid I1
    have HI2 := Lib.hid I2
    have HV1 := Lib.hid V1
    have HV2 := Lib.hid V2
    clear h I1 I2 V1 V2 S1 S2 hb e hnr hn
    go_enter Try.func7, Try.ntmps7
    go_wp2_with (first
      | (go_at_call_of 25 (nr : Int); refine (HI1.out _).mono ?_; rintro e w1 ⟨rfl, rfl⟩)
      | (go_at_call_of 25 (n : Int); refine (HI2.out _).mono ?_; rintro e w2 ⟨rfl, rfl⟩)
      | (go_at_call_of 26 br; refine HV1.out.mono ?_; rintro e w1 ⟨rfl, b1⟩)
      | (go_at_call_of 26 bc; refine (HV2.out _ b1).mono ?_; rintro e w2 ⟨rfl, b2⟩))
    go_ret2
    exact ⟨rfl, b1.trans (b2.mono b1.size)⟩
  | true =>
    rw [hb] at V2
    by_cases hs : sX (gi ys) ys.length = ((sm R : Nat) : Int)
    · obtain ⟨C, hC, c6⟩ := iN_of hb
      subst hC
      have e : twV R (iN C) = (((tN R C : Nat) : Int), ((wN R C : Nat) : Int)) := by rw [twV, if_pos ⟨hb, hs⟩, toNat_iN]
      rw [e]
      rw [iN_length, sX_iN] at hs
      have hcc := h.hcc
      rw [iN_length] at t3 t4 hcc
      have CT := fun W (hW : Below w.heap.size w W) => tables_any R C br o1 cr bc oc cc W ⟨h.n3, t3, t4, h.r6, c6, by omega⟩ (h.row.below hW) (h.col.below hW) h.hcr h.hcr2 hcc h.hcc2
      rw [iN_length] at I2 V2 S2 ⊢
      rw [sX_iN, hs] at S2
      obtain ⟨nr, hnr⟩ : ∃ nr, R.length = nr := ⟨_, rfl⟩
      obtain ⟨n, hn⟩ : ∃ n, C.length = n := ⟨_, rfl⟩
      rw [hnr] at I1 V1 S1 t1 t2 CT ⊢
      rw [hn] at I2 V2 S2 t3 t4 CT ⊢
      have HI1 := Lib.hid I1
      have HI2 := Lib.hid I2
      have HV1 := Lib.hid V1
      have HV2 := Lib.hid V2
      have HS1 := Lib.hid S1
      have HS2 := Lib.hid S2
      have HCT := Lib.hid CT
      clear h I1 I2 V1 V2 S1 S2 hb e hs CT hcc c6 hnr hn
      go_enter Try.func7, Try.ntmps7
      go_wp2_with (first
        | (go_at_call_of 25 (nr : Int); refine (HI1.out _).mono ?_; rintro e w1 ⟨rfl, rfl⟩)
        | (go_at_call_of 25 (n : Int); refine (HI2.out _).mono ?_; rintro e w2 ⟨rfl, rfl⟩)
        | (go_at_call_of 26 br; refine HV1.out.mono ?_; rintro e w1 ⟨rfl, b1⟩)
        | (go_at_call_of 26 bc; refine (HV2.out _ b1).mono ?_; rintro e w2 ⟨rfl, b2⟩; have b3 := b1.trans (b2.mono b1.size))
        | (go_at_call_of 27 br; refine (HS1.out _ b3).mono ?_; rintro e w3 ⟨rfl, rfl⟩)
        | (go_at_call_of 27 bc; refine (HS2.out _ b3).mono ?_; rintro e w4 ⟨rfl, rfl⟩)
        | (go_at_call 28; refine (HCT.out _ b3).mono ?_; rintro e w5 ⟨rfl, hb5⟩))
      go_ret2
      exact ⟨rfl, b3.trans (hb5.mono b3.size)⟩
    · have e : twV R ys = (-1, -1) := if_neg (fun h => hs h.2)
      rw [e]
      obtain ⟨a, ha⟩ : ∃ a, sX (gi ys) ys.length = a := ⟨_, rfl⟩
      obtain ⟨b, hb2⟩ : ∃ b, ((sm R : Nat) : Int) = b := ⟨_, rfl⟩
      rw [ha] at S2 hs
      rw [hb2] at S1 hs
      have hne : (b == a) = false := by rw [beq_eq_false_iff_ne]; exact fun e => hs e.symm
      obtain ⟨nr, hnr⟩ : ∃ nr, R.length = nr := ⟨_, rfl⟩
      obtain ⟨n, hn⟩ : ∃ n, ys.length = n := ⟨_, rfl⟩
      rw [hnr] at I1 V1 S1 t1 t2 ⊢
      rw [hn] at I2 V2 S2 t3 t4 ⊢
      have HI1 := Lib.hid I1
      have HI2 := Lib.hid I2
      have HV1 := Lib.hid V1
      have HV2 := Lib.hid V2
      have HS1 := Lib.hid S1
      have HS2 := Lib.hid S2
      clear h I1 I2 V1 V2 S1 S2 hb e hs ha hb2 hnr hn
      go_enter Try.func7, Try.ntmps7
      go_wp2_with (first
        | (go_at_call_of 25 (nr : Int); refine (HI1.out _).mono ?_; rintro e w1 ⟨rfl, rfl⟩)
        | (go_at_call_of 25 (n : Int); refine (HI2.out _).mono ?_; rintro e w2 ⟨rfl, rfl⟩)
        | (go_at_call_of 26 br; refine HV1.out.mono ?_; rintro e w1 ⟨rfl, b1⟩)
        | (go_at_call_of 26 bc; refine (HV2.out _ b1).mono ?_; rintro e w2 ⟨rfl, b2⟩; have b3 := b1.trans (b2.mono b1.size))
        | (go_at_call_of 27 br; refine (HS1.out _ b3).mono ?_; rintro e w3 ⟨rfl, rfl⟩)
        | (go_at_call_of 27 bc; refine (HS2.out _ b3).mono ?_; rintro e w4 ⟨rfl, rfl⟩))
      go_ret2
      exact ⟨rfl, b3⟩

end Go.Proofs.Ytpcnjkgoehepaaa
