/- The law laws.FnExactResampleSums returns true for all arguments, and changes no memory that was there. -/
import Derived.Test.YtpcnjkgoehepaaaResC
namespace Go.Proofs.Ytpcnjkgoehepaaa
open Go.RowKit

theorem markIntS_mutM (lo hi n : Nat) (v : Value) (cs : List Value) (m : Int) (w : World) (h : MutB 3 w lo hi v n cs) (hl : cs.length = n) (hn : n ≤ 1048576) (hm : 0 ≤ m) (hm2 : m ≤ 1099511627776) :
    Calls Try.prog 15 #[v, .int .i64 m] w fun e w' => e = .returned (.int .i64 (m + (n : Nat))) ∧ MutB 3 w' lo hi v n (mk m n) ∧ Chg lo hi w w' := by
  rcases h with ⟨rfl, rfl, _⟩ | ⟨g, c, rfl, h1, h2, h3⟩
  · exact (markIntS_nil none 0 m w).mono fun e w' ⟨he, hw⟩ => ⟨by rw [he]; simp, .inl ⟨rfl, rfl, rfl⟩, by rw [hw]; exact Chg.refl _ _ _⟩
  · exact (markIntS_row g c n cs m w h3 hl hn hm hm2).mono fun e w' ⟨he, hb, hg⟩ => ⟨he, .inr ⟨g, c, rfl, h1, h2, hb⟩, Chg.of_grown hg h1 h2⟩
theorem heldIntS_mutM (lo hi n : Nat) (v : Value) (m : Int) (w : World) (h : MutB 3 w lo hi v n (mk m n)) (hn : n ≤ 1048576) (hm : 0 ≤ m) (hm2 : m ≤ 1099511627776) :
    Calls Try.prog 16 #[v, .int .i64 m] w fun e w' => e = .returned (.int .i64 (m + (n : Nat))) ∧ w' = w := by
  rcases h with ⟨rfl, rfl, _⟩ | ⟨g, c, rfl, h1, h2, h3⟩
  · exact (heldIntS_nil none 0 m w).mono fun e w' ⟨he, hw⟩ => ⟨by rw [he]; simp, hw⟩
  · exact heldIntS_row g c n m w h3 hn hm hm2

set_option maxHeartbeats 8000000 in
theorem FnExactResampleSums_main (a : Value) (xs : List Int) (w : World) (ha : ArgI w a xs) (hl : xs.length ≤ 1048576) (ca : Nat) (ad : Option Addr) (hav : a = .slice ad xs.length ca) :
    Calls Try.prog 4 #[a] w fun e w' => e = .returned (.bool true) ∧ Below w.heap.size w w' := by
  have HA := Lib.hid ha
  have CS := Lib.hid (fun (b o c : Nat) (W : World) (h : RowI W b o xs) => rs_spec b o c xs W h hl)
  have CI := Lib.hid (fun (b o c : Nat) (W : World) (h : RowI W b o xs) => rs_impl b o c xs W h hl)
  obtain ⟨L, hL⟩ : ∃ L, rL xs = L := ⟨_, rfl⟩
  rw [hL] at CS CI
  have fl := fS_length L
  have sl := sS_length L
  obtain ⟨A, hA⟩ : ∃ A, fS L = A := ⟨_, rfl⟩
  obtain ⟨B, hB⟩ : ∃ B, sS L = B := ⟨_, rfl⟩
  obtain ⟨n, hn⟩ : ∃ n, L.length = n := ⟨_, rfl⟩
  rw [hA, hB] at CS CI
  rw [hn] at CI fl sl
  rw [hA] at fl
  rw [hB] at sl
  have HNA := Lib.hid fl
  have HNB := Lib.hid sl
  have HLX := Lib.hid hl
  clear ha hL hA hB hn fl sl
  subst hav
  go_enter Try.func4, Try.ntmps4
  go_wp2_with fail
  refine (toIntS_any _ xs _ HA.out hl).mono ?_
  rintro e w1 ⟨rfl, k1, b1⟩
  have z1 := b1.size
  have K1 := Lib.hid k1; clear k1
  go_wp2_with fail
  refine (CS.out _ 0 _ _ K1.out.row).mono ?_
  rintro e w3 ⟨s1, s2, rfl, sa, sb, b3⟩
  have SA := Lib.hid sa
  have SB := Lib.hid sb
  have z3 := b3.size
  have B3 := Lib.hid (show Below w.heap.size w w3 from b1.trans (b3.mono z1))
  clear K1 b1 b3 sa sb
  go_wp2_with fail
  refine (toIntS_any _ xs _ (HA.out.below B3.out) hl).mono ?_
  rintro e w4 ⟨rfl, k6, b4⟩
  have K6 := Lib.hid k6; clear k6
  have z4 := b4.size
  have l6 := K6.out.lt
  have D4 := Lib.hid b4
  clear b4
  go_wp2_with fail
  refine (CI.out _ 0 _ _ K6.out.row).mono ?_
  rintro e w6 ⟨v8, v9, mid, rfl, hn256, q1, q2, m8, m9, b6⟩
  have M8 := Lib.hid m8
  have M9 := Lib.hid m9
  have z6 := b6.size
  have K6 := Lib.hid (K6.out.below b6)
  have D6 := Lib.hid (D4.out.trans (b6.mono z4))
  clear b6 m8 m9 D4
  have hnA : A.length ≤ 1048576 := by rw [HNA.out]; omega
  have hnB : B.length ≤ 1048576 := by rw [HNB.out]; omega
  have hnn : n ≤ 1048576 := by omega
  go_wp2_with fail
  refine (eqIntS_any _ _ A _ (M8.out.mut.arg HNA.out.symm) (SA.out.below D6.out) hnA).mono ?_
  rintro e w7 ⟨rfl, b7⟩
  have z7 := b7.size
  have K6 := Lib.hid (K6.out.below b7)
  have M8 := Lib.hid (M8.out.below b7)
  have M9 := Lib.hid (M9.out.below b7)
  have D7 := Lib.hid (D6.out.trans (b7.mono (by omega)))
  clear b7 D6
  go_wp2_with fail
  refine (eqIntS_any _ _ B _ (M9.out.mut.arg HNB.out.symm) (SB.out.below D7.out) hnB).mono ?_
  rintro e w8 ⟨rfl, b8⟩
  have z8 := b8.size
  have K6 := Lib.hid (K6.out.below b8)
  have M8 := Lib.hid (M8.out.below b8)
  have M9 := Lib.hid (M9.out.below b8)
  have D8 := Lib.hid (D7.out.trans (b8.mono (by omega)))
  clear b8 D7
  go_wp2_with fail
  refine (toIntS_any _ xs _ ((HA.out.below B3.out).below D8.out) hl).mono ?_
  rintro e w9 ⟨rfl, k9, b9⟩
  have K9 := Lib.hid k9; clear k9
  have z9 := b9.size
  have K6 := Lib.hid (K6.out.below b9)
  have M8 := Lib.hid (M8.out.below b9)
  have M9 := Lib.hid (M9.out.below b9)
  have D9 := Lib.hid (D8.out.trans (b9.mono (by omega)))
  clear b9 D8
  go_wp2_with fail
  refine (eqIntS_any _ _ xs _ (.inr ⟨_, 0, _, rfl, K6.out.row⟩) (.inr ⟨_, 0, _, rfl, K9.out.row⟩) hl).mono ?_
  rintro e w10 ⟨rfl, b10⟩
  have z10 := b10.size
  have K6 := Lib.hid (K6.out.below b10)
  have M8 := Lib.hid (M8.out.below b10)
  have M9 := Lib.hid (M9.out.below b10)
  have D10 := Lib.hid (D9.out.trans (b10.mono (by omega)))
  clear b10 D9 K9
  go_wp2_with fail
  refine (markIntS_any _ _ xs.length _ 1 _ K6.out (ic_length xs) hl (by omega) (by omega)).mono ?_
  rintro e w12 ⟨rfl, g12⟩
  have c12 : Chg w3.heap.size w4.heap.size w10 w12 := Chg.of_grown g12 (Nat.le_refl _) l6
  have z12 := c12.size
  have M8 := Lib.hid (M8.out.chg c12 (by omega))
  have M9 := Lib.hid (M9.out.chg c12 (by omega))
  have D12 := Lib.hid (D10.out.trans (c12.below (Nat.le_refl _) (by omega)))
  clear c12 g12 K6 D10
  have hk : decide (1 + (xs.length : Int) < 0) = false := by simp; omega
  go_wp2_with fail
  refine (eqIntS_any _ _ A _ (M8.out.mut.arg HNA.out.symm) (SA.out.below D12.out) hnA).mono ?_
  rintro e w13 ⟨rfl, b13⟩
  have z13 := b13.size
  have M8 := Lib.hid (M8.out.below b13)
  have M9 := Lib.hid (M9.out.below b13)
  have D13 := Lib.hid (D12.out.trans (b13.mono (by omega)))
  clear b13 D12
  go_wp2_with fail
  refine (eqIntS_any _ _ B _ (M9.out.mut.arg HNB.out.symm) (SB.out.below D13.out) hnB).mono ?_
  rintro e w14 ⟨rfl, b14⟩
  have z14 := b14.size
  have M8 := Lib.hid (M8.out.below b14)
  have M9 := Lib.hid (M9.out.below b14)
  have D14 := Lib.hid (D13.out.trans (b14.mono (by omega)))
  clear b14 D13
  go_wp2_with fail
  refine (markIntS_mutM _ _ n _ _ 1 _ M8.out (by rw [ic_length]; exact HNA.out) hnn (by omega) (by omega)).mono ?_
  rintro e w15 ⟨rfl, m8, c15⟩
  have z15 := c15.size
  have M8 := Lib.hid m8
  have M9 := Lib.hid (M9.out.chg c15 (by omega))
  have D15 := Lib.hid (D14.out.trans (c15.below (by omega) (by omega)))
  clear c15 m8 D14
  go_wp2_with fail
  refine (markIntS_mutM _ _ n _ _ (1 + (n : Nat)) _ M9.out (by rw [ic_length]; exact HNB.out) hnn (by omega) (by omega)).mono ?_
  rintro e w16 ⟨rfl, m9, c16⟩
  have z16 := c16.size
  have M9 := Lib.hid m9
  have M8 := Lib.hid (M8.out.chg c16 (by omega))
  have D16 := Lib.hid (D15.out.trans (c16.below (by omega) (by omega)))
  clear c16 m9 D15
  have hq0 : decide (1 + (n : Int) < 0) = false := by simp; omega
  have hq2 : decide (1 + (n : Int) + (n : Int) < 0) = false := by simp; omega
  have hq1 : (1 + (n : Int) + (n : Int) != 1 + (n : Int) + (n : Int)) = false := by simp
  go_wp2_with fail
  refine (heldIntS_mutM _ _ n _ 1 _ M8.out hnn (by omega) (by omega)).mono ?_
  rintro e w17 ⟨rfl, rfl⟩
  go_wp2_with fail
  refine (heldIntS_mutM _ _ n _ (1 + (n : Nat)) _ M9.out hnn (by omega) (by omega)).mono ?_
  rintro e w18 ⟨rfl, rfl⟩
  go_wp2_with fail
  refine (toIntS_any _ xs _ ((HA.out.below B3.out).below D16.out) hl).mono ?_
  rintro e w19 ⟨rfl, k1, b19⟩
  have K1 := Lib.hid k1; clear k1
  have z19 := b19.size
  have M8 := Lib.hid (M8.out.below b19)
  have M9 := Lib.hid (M9.out.below b19)
  have D19 := Lib.hid (D16.out.trans (b19.mono (by omega)))
  clear b19 D16
  go_wp2_with fail
  refine (CI.out _ 0 _ _ K1.out.row).mono ?_
  rintro e w20 ⟨v28, v29, mid2, rfl, _, q3, q4, m28, m29, b20⟩
  have N8 := Lib.hid m28
  have N9 := Lib.hid m29
  have z20 := b20.size
  have M8 := Lib.hid (M8.out.below b20)
  have M9 := Lib.hid (M9.out.below b20)
  have D20 := Lib.hid (D19.out.trans (b20.mono (by omega)))
  clear b20 m28 m29 D19 K1
  go_wp2_with fail
  refine (eqIntS_any _ _ A _ (N8.out.mut.arg HNA.out.symm) (SA.out.below D20.out) hnA).mono ?_
  rintro e w21 ⟨rfl, b21⟩
  have z21 := b21.size
  have M8 := Lib.hid (M8.out.below b21)
  have M9 := Lib.hid (M9.out.below b21)
  have N9 := Lib.hid (N9.out.below b21)
  have D21 := Lib.hid (D20.out.trans (b21.mono (by omega)))
  clear b21 D20
  go_wp2_with fail
  refine (eqIntS_any _ _ B _ (N9.out.mut.arg HNB.out.symm) (SB.out.below D21.out) hnB).mono ?_
  rintro e w22 ⟨rfl, b22⟩
  have z22 := b22.size
  have M8 := Lib.hid (M8.out.below b22)
  have M9 := Lib.hid (M9.out.below b22)
  have D22 := Lib.hid (D21.out.trans (b22.mono (by omega)))
  clear b22 D21
  go_wp2_with fail
  refine (heldIntS_mutM _ _ n _ 1 _ M8.out hnn (by omega) (by omega)).mono ?_
  rintro e w23 ⟨rfl, rfl⟩
  go_wp2_with fail
  refine (heldIntS_mutM _ _ n _ (1 + (n : Nat)) _ M9.out hnn (by omega) (by omega)).mono ?_
  rintro e w24 ⟨rfl, rfl⟩
  go_wp2_with fail
  go_ret
  exact ⟨rfl, B3.out.trans (D22.out.mono (by omega))⟩

set_option maxHeartbeats 1000000 in
theorem FnExactResampleSums_long (ad : Option Addr) (la ca : Nat) (w : World) (h : 1048576 < la) (h1 : la ≤ 9223372036854775807) :
    Calls Try.prog 4 #[.slice ad la ca] w fun e w' => e = .returned (.bool true) ∧ Below w.heap.size w w' := by
  go_enter Try.func4, Try.ntmps4
  go_wp2_with fail
  go_ret
  exact ⟨rfl, Below.refl _ _⟩

end Go.Proofs.Ytpcnjkgoehepaaa
