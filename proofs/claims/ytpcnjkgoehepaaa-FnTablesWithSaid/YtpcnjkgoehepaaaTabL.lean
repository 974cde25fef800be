/- The law laws.FnTablesWith returns true for all codes, and changes no memory that was there. -/
import Derived.Test.YtpcnjkgoehepaaaTabD
namespace Go.Proofs.Ytpcnjkgoehepaaa
open Go.RowKit

theorem pF_append : ∀ A B : List Nat, pF (A ++ B) = pF A * pF B
  | [], B => by simp [pF]
  | c :: A, B => by
    have := pF_append A B
    unfold pF at this ⊢
    rw [List.cons_append, List.map_cons, List.foldr_cons, List.map_cons, List.foldr_cons, this, Nat.mul_assoc]
theorem pF_take_le (C : List Nat) (k : Nat) : pF (C.take k) ≤ pF C := by
  have h := pF_append (C.take k) (C.drop k)
  rw [List.take_append_drop] at h
  rw [h]
  exact Nat.le_mul_of_pos_right _ (pF_pos _)
theorem pF_take {C : List Nat} {k : Nat} (h : k < C.length) : pF (C.take (k + 1)) = pF (C.take k) * fct (C.getD k 0) := by
  rw [List.take_add_one, List.getElem?_eq_getElem h, Option.toList_some, pF_append]
  simp [pF, h]

set_option maxHeartbeats 4000000 in
set_option maxRecDepth 100000 in
theorem FnTablesWith_main (ad : Option Addr) (n c : Nat) (w : World) (h : CodeB w w.heap.size ad n) (hn : n ≤ 1048576) (hc : n ≤ c) :
    Calls Try.prog 3 #[.slice ad n c] w fun e w' => e = .returned (.bool true) ∧ Below w.heap.size w w' := by
  have H := Lib.hid h
  clear h
  go_enter Try.func3, Try.ntmps3
  go_wp2_with fail
  refine (drawTab_any ad n c w H.out (by omega) hc).mono ?_
  rintro e w2 ⟨g1, c1, g2, c2, R, ys, rfl, tin, b2⟩
  have z2 := b2.size
  have B2 := Lib.hid b2
  clear b2 H
  have CI := tw_impl R ys g1 0 c1 g2 0 c2 w2 tin
  have CS := fun W (hW : Below w2.heap.size w2 W) => tw_spec R ys g1 0 c1 g2 0 c2 W (tin.below hW)
  by_cases ok : allB ys 0 6 = true ∧ sX (gi ys) ys.length = ((sm R : Nat) : Int)
  · obtain ⟨C, hC, c6⟩ := iN_of ok.1
    subst hC
    have hs := ok.2
    rw [iN_length, sX_iN] at hs
    have hm1 := tin.m1
    have hm3 := tin.m3
    have hcc := tin.hcc
    rw [iN_length] at hm1 hm3 hcc
    have tok : TOk R C := ⟨tin.n3, hm1, hm3, tin.r6, c6, by omega⟩
    have e1 : twV R (iN C) = (((tN R C : Nat) : Int), ((wN R C : Nat) : Int)) := by rw [twV, if_pos ok, toNat_iN]
    have e2 : twV C (iN R) = (((tN C R : Nat) : Int), ((wN C R : Nat) : Int)) := by
      rw [twV, if_pos ⟨allB_iN (b := 6) tin.r6, by rw [iN_length, sX_iN]; omega⟩, toNat_iN]
    have tin2 : TIn w2 C (iN R) g2 0 c2 g1 0 c1 := ⟨tin.col, tin.row, hm1, hm3, c6, by rw [iN_length]; exact tin.n1, by rw [iN_length]; exact tin.n3, fun i hi => by have := gi_iN_le tin.r6 i (by rw [iN_length] at hi; exact hi); omega, hcc, tin.hcc2, by rw [iN_length]; exact tin.hcr, tin.hcr2⟩
    have CJ := fun W (hW : Below w2.heap.size w2 W) => tw_impl C (iN R) g2 0 c2 g1 0 c1 W (tin2.below hW)
    have CT := fun W (hW : Below w2.heap.size w2 W) => total_s g1 0 c1 (iN R) W (tin.row.below hW) (by rw [iN_length]; have := tin.n3; omega) (fun i hi => by have := gi_iN_le tin.r6 i (by rw [iN_length] at hi; exact hi); omega)
    have h18 : sm R ≤ 18 := by rw [tok.eq]; exact sm_le18 hm3 c6
    have hall := wN_all R C hm3 c6 tok.eq
    have hpos := tN_pos R C tok.eq
    have hX := tok.t
    have hcell : ∀ k, k < C.length → C.getD k 0 ≤ 6 := fun k hk => by
      rw [List.getD_eq_getElem?_getD, List.getElem?_eq_getElem hk]
      exact c6 _ (List.getElem_mem hk)
    have hfR : fct (sm R) ≤ 6402373705728000 := by
      have : ∀ n, n < 19 → fct n ≤ 6402373705728000 := by decide
      exact this _ (by omega)
    have hpart : ∀ k, wN R C * pF (C.take k) ≤ 6402373705728000 := fun k => by
      have h1 : wN R C * pF (C.take k) ≤ wN R C * pF C := Nat.mul_le_mul_left _ (pF_take_le C k)
      omega
    rw [tN_turn R C] at e2
    rw [e1] at CI CS
    rw [e2] at CJ
    rw [iN_length] at CI CS CJ CT
    rw [sX_iN] at CT
    rw [iN_length]
    have CP := Lib.hid (fun k (hk : k ≤ 18) W => product_any k W hk)
    have CPR := Lib.hid (fun W => product_any (sm R) W h18)
    obtain ⟨nr, hnr⟩ : ∃ nr, R.length = nr := ⟨_, rfl⟩
    obtain ⟨m, hm⟩ : ∃ m, C.length = m := ⟨_, rfl⟩
    have HMC := Lib.hid hm
    rw [hnr] at CI CS CJ CT ⊢
    rw [hm] at CI CS CJ hm1 hm3 hcc hcell ⊢
    obtain ⟨X, hXe⟩ : ∃ X, tN R C = X := ⟨_, rfl⟩
    obtain ⟨Y, hYe⟩ : ∃ Y, wN R C = Y := ⟨_, rfl⟩
    obtain ⟨Z, hZe⟩ : ∃ Z, wN C R = Z := ⟨_, rfl⟩
    obtain ⟨FR, hFR⟩ : ∃ F, fct (sm R) = F := ⟨_, rfl⟩
    obtain ⟨SR, hSR⟩ : ∃ F, sm R = F := ⟨_, rfl⟩
    rw [hXe] at CI CS CJ hpos hX
    rw [hYe] at CI CS hpart hall
    rw [hZe] at CJ
    rw [hFR] at hall hfR CPR
    rw [hSR] at CT CPR
    have RC := Lib.hid tin.col
    have HCI := Lib.hid CI
    have HCS := Lib.hid CS
    have HCJ := Lib.hid CJ
    have HCT := Lib.hid CT
    have HPART := Lib.hid hpart
    have HALL := Lib.hid hall
    have HCELL := Lib.hid hcell
    clear CI CS CJ CT tin tin2 ok tok e1 e2 hs c6 hall hpart hcell hXe hYe hZe hFR hSR hnr hm hcc h18
    have x1 : ((X : Int) == (X : Int)) = true := by simp
    have x2 : ((Y : Int) == (Y : Int)) = true := by simp
    have x3 : ¬ (X : Int) < 0 := by omega
    have x4 : (1 : Int) ≤ (X : Int) := by omega
    have x5 : ((FR : Int) == (FR : Int)) = true := by simp
    go_wp2_with fail
    refine HCI.out.mono ?_
    rintro e w3 ⟨rfl, b3⟩
    have z3 := b3.size
    have B3 := Lib.hid b3
    clear b3
    go_wp2_with fail
    refine (HCS.out _ B3.out).mono ?_
    rintro e w4 ⟨rfl, b4⟩
    have B4 := Lib.hid (B3.out.trans (b4.mono z3))
    clear b4
    go_wp2_with fail
    go_loopw [9, 10] (fun v9 v10 wr => ∃ k : Nat, k ≤ m ∧ v10 = .int .i64 k ∧ v9 = .int .i64 (Y * pF (C.take k) : Nat) ∧ wr = w4) (fun _ v10 _ => m - (intOf v10).toNat)
    case atStart => exact ⟨0, Nat.zero_le _, rfl, by simp [pF], by trivial⟩
    case round =>
      obtain ⟨k, hk, rfl, rfl, rfl⟩ := hrel
      have hb1 := HPART.out k
      by_cases hkm : k < m
      · have y1 := (RC.out.below B4.out).cell k (by rw [iN_length, HMC.out]; exact hkm)
        rw [gi_iN, Nat.zero_add] at y1
        have h6 := HCELL.out k hkm
        have hb2 := HPART.out (k + 1)
        have hst := pF_take (C := C) (k := k) (by rw [HMC.out]; exact hkm)
        obtain ⟨x, hx⟩ : ∃ x, C.getD k 0 = x := ⟨_, rfl⟩
        rw [hx] at y1 h6 hst
        have CX := CP.out x (by omega)
        obtain ⟨F, hF⟩ : ∃ F, fct x = F := ⟨_, rfl⟩
        rw [hF] at hst CX
        rw [hst, ← Nat.mul_assoc] at hb2
        obtain ⟨Q, hQ⟩ : ∃ Q, Y * pF (C.take k) = Q := ⟨_, rfl⟩
        rw [hQ] at hb1 hb2 ⊢
        have hst2 : Y * pF (C.take (k + 1)) = Q * F := by rw [hst, ← Nat.mul_assoc, hQ]
        obtain ⟨P, hP⟩ : ∃ P, Q * F = P := ⟨_, rfl⟩
        rw [hP] at hb2 hst2
        have q1 : IntKind.i64.wrap ((Q : Int) * (F : Int)) = (P : Int) := by rw [← hP, Int.natCast_mul]; exact IntWalk.i64_in _ (by rw [← Int.natCast_mul, hP]; omega)
        have HST := Lib.hid hst2
        have HCX := Lib.hid CX
        clear hx hF hQ hP hst hst2 CX h6
        go_wp2_with (go_at_call 9; refine (HCX.out _).mono ?_; rintro e w5 ⟨rfl, rfl⟩)
        go_roundw
        case rel => exact ⟨k + 1, by omega, by go_num, by rw [HST.out], by trivial⟩
        case measure => simp [intOf]; omega
      · obtain rfl : k = m := by omega
        have e : Y * pF (C.take k) = FR := by rw [List.take_of_length_le (by rw [HMC.out]; exact Nat.le_refl _), HALL.out]
        rw [e]
        clear e hb1
        go_wp2_with (first
          | (go_at_call 7; refine (HCJ.out _ B4.out).mono ?_; rintro e w6 ⟨rfl, b6⟩; have B6 := Lib.hid (B4.out.trans (b6.mono B4.out.size)); clear b6)
          | (go_at_call 10; refine (HCT.out _ B6.out).mono ?_; rintro e w7 ⟨rfl, rfl⟩)
          | (go_at_call 9; refine (CPR.out _).mono ?_; rintro e w8 ⟨rfl, rfl⟩))
        go_ret
        exact ⟨rfl, B2.out.trans (B6.out.mono z2)⟩
  · have e : twV R ys = (-1, -1) := if_neg ok
    rw [e] at CI CS
    obtain ⟨nr, hnr⟩ : ∃ nr, R.length = nr := ⟨_, rfl⟩
    obtain ⟨m, hm⟩ : ∃ m, ys.length = m := ⟨_, rfl⟩
    rw [hnr, hm] at CI CS ⊢
    have HCI := Lib.hid CI
    have HCS := Lib.hid CS
    clear CI CS tin ok e hnr hm
    go_wp2_with fail
    refine HCI.out.mono ?_
    rintro e w3 ⟨rfl, b3⟩
    have z3 := b3.size
    have B3 := Lib.hid b3
    clear b3
    go_wp2_with fail
    refine (HCS.out _ B3.out).mono ?_
    rintro e w4 ⟨rfl, b4⟩
    have B4 := Lib.hid b4
    clear b4
    go_wp2_with fail
    go_ret
    exact ⟨rfl, (B2.out.trans (B3.out.mono z2)).trans (B4.out.mono (by omega))⟩

theorem FnTablesWith_long (ad : Option Addr) (la ca : Nat) (w : World) (h : 1048576 < la) (h1 : la ≤ 9223372036854775807) :
    Calls Try.prog 3 #[.slice ad la ca] w fun e w' => e = .returned (.bool true) ∧ Below w.heap.size w w' := by
  go_enter Try.func3, Try.ntmps3
  go_wp2_with fail
  go_ret
  exact ⟨rfl, Below.refl _ _⟩

end Go.Proofs.Ytpcnjkgoehepaaa
