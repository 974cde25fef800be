/- impl.TablesWith and spec.TablesWith: walked. -/
import Derived.Test.YtpcnjkgoehepaaaTabS
namespace Go.Proofs.Ytpcnjkgoehepaaa
open Go.RowKit

set_option maxHeartbeats 1000000 in
theorem validSums_any (b o c : Nat) (xs : List Int) (w : World) (h : RowI w b o xs) (h1 : 1 ≤ xs.length) (h3 : xs.length ≤ 3) :
    Calls Try.prog 29 #[.slice (some ⟨b, o, none⟩) xs.length c] w fun e w' => e = .returned (.bool (allB xs 0 6)) ∧ w = w' := by
  have H := Lib.hid h
  obtain ⟨n, hn⟩ : ∃ n, xs.length = n := ⟨_, rfl⟩
  have HN := Lib.hid hn
  rw [hn] at h1 h3 ⊢
  have HL := Lib.hid (fun W => inRange_any (n : Int) 1 3 W)
  have hb : inB (n : Int) 1 3 = true := inB_iff.2 ⟨by omega, by omega⟩
  rw [hb] at HL
  clear h hn hb
  go_enter Try.func29, Try.ntmps29
  go_wp2_with fail
  go_loop [3] (fun v3 => ∃ k : Nat, k ≤ n ∧ v3 = .int .i64 k ∧ AllIn xs 0 6 k) (fun v3 => n - (intOf v3).toNat)
  case atStart => exact ⟨0, Nat.zero_le _, rfl, fun k hk => absurd hk (Nat.not_lt_zero _)⟩
  case round =>
    obtain ⟨k, hk, rfl, hok⟩ := hrel
    have HO := Lib.hid hok
    clear hok
    by_cases hlt : k < n
    · have c1 := H.out.cell k (by rw [HN.out]; exact hlt)
      have CI := fun W => inRange_any (gi xs k) 0 6 W
      cases hin : inB (gi xs k) 0 6 with
      | true =>
        rw [hin] at CI
        have HI := Lib.hid hin
        obtain ⟨x, hx⟩ : ∃ x, gi xs k = x := ⟨_, rfl⟩
        rw [hx] at c1 CI
        have HCI := Lib.hid CI
        clear hin CI hx
        go_wp2_with (go_at_call 32; refine (HCI.out _).mono ?_; rintro e w1 ⟨rfl, rfl⟩)
        go_round
        case rel => exact ⟨k + 1, by omega, by go_num, fun j hj => by by_cases e : j = k; (· subst e; exact HI.out); exact HO.out j (by omega)⟩
        case measure => simp [intOf]; omega
      | false =>
        rw [hin] at CI
        have HB := Lib.hid (allB_false (by rw [HN.out]; exact hlt) hin)
        obtain ⟨x, hx⟩ : ∃ x, gi xs k = x := ⟨_, rfl⟩
        rw [hx] at c1 CI
        have HCI := Lib.hid CI
        clear hin CI hx
        go_wp2_with (go_at_call 32; refine (HCI.out _).mono ?_; rintro e w1 ⟨rfl, rfl⟩)
        go_ret
        exact ⟨by rw [HB.out]; rfl, rfl⟩
    · obtain rfl : k = n := by omega
      have HB := Lib.hid (show allB xs 0 6 = true from allB_iff.2 (by rw [HN.out]; exact HO.out))
      go_wp2_with (go_at_call 32; refine (HL.out _).mono ?_; rintro e w1 ⟨rfl, rfl⟩)
      go_ret
      exact ⟨by rw [HB.out]; rfl, rfl⟩

/-- What TablesWith returns. -/
def twV (R : List Nat) (ys : List Int) : Int × Int :=
  if allB ys 0 6 = true ∧ sX (gi ys) ys.length = ((sm R : Nat) : Int) then (((tN R (ys.map Int.toNat) : Nat) : Int), ((wN R (ys.map Int.toNat) : Nat) : Int)) else (-1, -1)
theorem toNat_iN : ∀ L : List Nat, (iN L).map Int.toNat = L
  | [] => rfl
  | c :: L => by
    show ((c : Int)).toNat :: (iN L).map Int.toNat = c :: L
    rw [toNat_iN L]
    simp
theorem iN_toNat : ∀ ys : List Int, (∀ y ∈ ys, 0 ≤ y) → iN (ys.map Int.toNat) = ys
  | [], _ => rfl
  | y :: ys, h => by
    show ((y.toNat : Nat) : Int) :: iN (ys.map Int.toNat) = y :: ys
    rw [iN_toNat ys fun x hx => h x (by simp [hx]), Int.toNat_of_nonneg (h y (by simp))]
theorem allB_mem {ys : List Int} (h : allB ys 0 6 = true) : ∀ y ∈ ys, 0 ≤ y ∧ y ≤ 6 := by
  intro y hy
  unfold allB at h
  rw [List.all_eq_true] at h
  exact inB_iff.1 (h y hy)
theorem iN_of {ys : List Int} (h : allB ys 0 6 = true) : ∃ C : List Nat, ys = iN C ∧ ∀ c ∈ C, c ≤ 6 := by
  refine ⟨ys.map Int.toNat, (iN_toNat ys fun y hy => (allB_mem h y hy).1).symm, fun c hc => ?_⟩
  obtain ⟨y, hy, rfl⟩ := List.mem_map.1 hc
  have := allB_mem h y hy
  omega

/-- Sums that come in. -/
structure TIn (w : World) (R : List Nat) (ys : List Int) (br o1 cr bc oc cc : Nat) : Prop where
  row : RowI w br o1 (iN R)
  col : RowI w bc oc ys
  n1 : 1 ≤ R.length
  n3 : R.length ≤ 3
  r6 : ∀ r ∈ R, r ≤ 6
  m1 : 1 ≤ ys.length
  m3 : ys.length ≤ 3
  bd : ∀ i, i < ys.length → -1000 ≤ gi ys i ∧ gi ys i ≤ 1000
  hcr : R.length ≤ cr
  hcr2 : cr ≤ 9223372036854775807
  hcc : ys.length ≤ cc
  hcc2 : cc ≤ 9223372036854775807
theorem TIn.below {w w' : World} {R : List Nat} {ys : List Int} {br o1 cr bc oc cc : Nat} (h : TIn w R ys br o1 cr bc oc cc) (hb : Below w.heap.size w w') : TIn w' R ys br o1 cr bc oc cc :=
  ⟨h.row.below hb, h.col.below hb, h.n1, h.n3, h.r6, h.m1, h.m3, h.bd, h.hcr, h.hcr2, h.hcc, h.hcc2⟩

set_option maxHeartbeats 4000000 in
theorem tw_spec (R : List Nat) (ys : List Int) (br o1 cr bc oc cc : Nat) (w : World) (h : TIn w R ys br o1 cr bc oc cc) :
    Calls Try.prog 8 #[.slice (some ⟨br, o1, none⟩) R.length cr, .slice (some ⟨bc, oc, none⟩) ys.length cc] w
      fun e w' => e = .returned (.tuple #[.int .i64 (twV R ys).1, .int .i64 (twV R ys).2]) ∧ Below w.heap.size w w' := by
  have V1 := validSums_any br o1 cr (iN R) w h.row (by rw [iN_length]; exact h.n1) (by rw [iN_length]; exact h.n3)
  rw [show allB (iN R) 0 6 = true from allB_iN h.r6, iN_length] at V1
  have V2 := validSums_any bc oc cc ys w h.col h.m1 h.m3
  have S1 := ssum_s br o1 cr (iN R) w h.row (by rw [iN_length]; have := h.n3; omega) (fun i hi => by have := gi_iN_le h.r6 i (by rw [iN_length] at hi; exact hi); omega)
  rw [iN_length, sX_iN] at S1
  have S2 := ssum_s bc oc cc ys w h.col (by have := h.m3; omega) h.bd
  cases hb : allB ys 0 6 with
  | false =>
    have e : twV R ys = (-1, -1) := if_neg (by rw [hb]; simp)
    rw [e]
    rw [hb] at V2
    have HV1 := Lib.hid V1
    have HV2 := Lib.hid V2
    clear h V1 V2 S1 S2 hb e
    go_enter Try.func8, Try.ntmps8
    go_wp2_with (first
      | (go_at_call_of 29 br; refine HV1.out.mono ?_; rintro e w1 ⟨rfl, rfl⟩)
      | (go_at_call_of 29 bc; refine HV2.out.mono ?_; rintro e w2 ⟨rfl, rfl⟩))
    go_ret2
    exact ⟨rfl, Below.refl _ _⟩
  | true =>
    rw [hb] at V2
    by_cases hs : sX (gi ys) ys.length = ((sm R : Nat) : Int)
    · obtain ⟨C, hC, c6⟩ := iN_of hb
      subst hC
      have e : twV R (iN C) = (((tN R C : Nat) : Int), ((wN R C : Nat) : Int)) := by rw [twV, if_pos ⟨hb, hs⟩, toNat_iN]
      rw [e]
      rw [iN_length, sX_iN] at hs
      have hm1 := h.m1
      have hm3 := h.m3
      have hcc := h.hcc
      rw [iN_length] at hm1 hm3 hcc
      have CT := count_any R C br o1 cr bc oc cc w ⟨h.n3, hm1, hm3, h.r6, c6, by omega⟩ h.row h.col h.hcr h.hcr2 hcc h.hcc2
      rw [iN_length] at V2 S2 ⊢
      rw [sX_iN, hs] at S2
      have HV1 := Lib.hid V1
      have HV2 := Lib.hid V2
      have HS1 := Lib.hid S1
      have HS2 := Lib.hid S2
      have HCT := Lib.hid CT
      clear h V1 V2 S1 S2 hb e hs CT hm1 hm3 hcc c6
      go_enter Try.func8, Try.ntmps8
      go_wp2_with (first
        | (go_at_call_of 29 br; refine HV1.out.mono ?_; rintro e w1 ⟨rfl, rfl⟩)
        | (go_at_call_of 29 bc; refine HV2.out.mono ?_; rintro e w2 ⟨rfl, rfl⟩)
        | (go_at_call_of 24 br; refine HS1.out.mono ?_; rintro e w3 ⟨rfl, rfl⟩)
        | (go_at_call_of 24 bc; refine HS2.out.mono ?_; rintro e w4 ⟨rfl, rfl⟩)
        | (go_at_call 30; refine HCT.out.mono ?_; rintro e w5 ⟨rfl, hb5⟩))
      go_ret2
      exact ⟨rfl, hb5⟩
    · have e : twV R ys = (-1, -1) := if_neg (fun h => hs h.2)
      rw [e]
      obtain ⟨a, ha⟩ : ∃ a, sX (gi ys) ys.length = a := ⟨_, rfl⟩
      obtain ⟨b, hb2⟩ : ∃ b, ((sm R : Nat) : Int) = b := ⟨_, rfl⟩
      rw [ha] at S2 hs
      rw [hb2] at S1 hs
      have hne : (b == a) = false := by rw [beq_eq_false_iff_ne]; exact fun e => hs e.symm
      have HV1 := Lib.hid V1
      have HV2 := Lib.hid V2
      have HS1 := Lib.hid S1
      have HS2 := Lib.hid S2
      clear h V1 V2 S1 S2 hb e hs ha hb2
      go_enter Try.func8, Try.ntmps8
      go_wp2_with (first
        | (go_at_call_of 29 br; refine HV1.out.mono ?_; rintro e w1 ⟨rfl, rfl⟩)
        | (go_at_call_of 29 bc; refine HV2.out.mono ?_; rintro e w2 ⟨rfl, rfl⟩)
        | (go_at_call_of 24 br; refine HS1.out.mono ?_; rintro e w3 ⟨rfl, rfl⟩)
        | (go_at_call_of 24 bc; refine HS2.out.mono ?_; rintro e w4 ⟨rfl, rfl⟩))
      go_ret2
      exact ⟨rfl, Below.refl _ _⟩

end Go.Proofs.Ytpcnjkgoehepaaa
