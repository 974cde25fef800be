/- The law laws.FnPiecesMiss returns true for all codes, and changes no memory that was there. -/
import Derived.Test.YtfbccnameppikaaSPiecesMiss
import Derived.Test.YtfbccnameppikaaLawTried
namespace Go.Proofs.Ytfbccnameppikaa
open Go.RowKit

theorem singles_cut (xs : List Int) : IsCut xs (xs.map fun x => [x]) ∧ cSum misQ (xs.map fun x => [x]) = 0 := by
  induction xs with
  | nil => exact ⟨⟨rfl, fun p hp => by cases hp⟩, rfl⟩
  | cons x xs ih =>
    refine ⟨ih.1.cons (q := [x]) (by simp) rfl, ?_⟩
    rw [List.map_cons, cSum, misQ_one, ih.2]
    exact Rat.zero_add 0
theorem cf_zero {xs : List Int} (hv : Rv xs) {m : Nat} (hm : xs.length ≤ m + 1) : cfN misQ xs m 0 = 0 := by
  have h := cfN_least misQ xs m 0 hv.n0
  rw [List.drop_zero] at h
  have h1 := h.low _ (singles_cut xs).1 (by rw [List.length_map]; exact hm)
  rw [(singles_cut xs).2] at h1
  exact Rat.le_antisymm h1 (h.pq misQ_good hv.n8 hv.x).nonneg
theorem cf_mono {xs : List Int} (hv : Rv xs) (m : Nat) : cfN misQ xs (m + 1) 0 ≤ cfN misQ xs m 0 :=
  (cfN_least misQ xs m 0 hv.n0).mono (cfN_least misQ xs (m + 1) 0 hv.n0) fun n hn => by omega
theorem cf_pq {xs : List Int} (hv : Rv xs) (m : Nat) : Pq 6048000 (cfN misQ xs m 0) := by
  have h := cfN_least misQ xs m 0 hv.n0
  rw [List.drop_zero] at h
  exact h.pq misQ_good hv.n8 hv.x
theorem piecesMiss_as (b o c n : Nat) (xs : List Int) (p U D : Int) (w : World) (h : RowI w b o xs) (hn : xs.length = n) (hc : n ≤ c) (h17 : n ≤ 17) (hU : ptU xs p = U) (hD : ptD xs p = D) (r : Bool) (hr : (rvB xs && inB p 1 8) = r) :
    Calls Try.prog 13 #[.slice (some ⟨b, o, none⟩) n c, .int .i64 p] w fun e w' => e = .returned (.tuple #[.agg #[.int .i64 U, .int .i64 D], .bool r]) ∧ Below w.heap.size w w' := by
  subst hn hU hD hr
  exact piecesMiss_any b o c xs p w h (by omega) hc
theorem spiecesMiss_as (b o c n : Nat) (xs : List Int) (p U D : Int) (w : World) (h : RowI w b o xs) (hn : xs.length = n) (h17 : n ≤ 17) (hU : ptU xs p = U) (hD : ptD xs p = D) (r : Bool) (hr : (rvB xs && inB p 1 8) = r) :
    Calls Try.prog 14 #[.slice (some ⟨b, o, none⟩) n c, .int .i64 p] w fun e w' => e = .returned (.tuple #[.agg #[.int .i64 U, .int .i64 D], .bool r]) ∧ Below w.heap.size w w' := by
  subst hn hU hD hr
  exact spiecesMiss_any b o c xs p w h (by omega)

set_option maxHeartbeats 8000000 in
set_option maxRecDepth 100000 in
theorem FnPiecesMiss_main (ad : Option Addr) (n c : Nat) (w : World) (h : CodeB w w.heap.size ad n) (hn : n ≤ 1048576) (hc : n ≤ c) :
    Calls Try.prog 4 #[.slice ad n c] w fun e w' => e = .returned (.bool true) ∧ Below w.heap.size w w' := by
  have H := Lib.hid h
  clear h
  go_enter Try.func4, Try.ntmps4
  go_wp2_with fail
  refine (drawPiecesMiss_any ad n c w H.out (by omega) hc).mono ?_
  rintro e w2 ⟨g1, c1, xs, z, rfl, k1, r1, l1, l2, hb2⟩
  obtain ⟨m, hm⟩ : ∃ m, xs.length = m := ⟨_, rfl⟩
  rw [hm] at l1 l2 ⊢
  have HM := Lib.hid hm
  have R1 := Lib.hid r1
  have z2 := hb2.size
  obtain ⟨U, hU⟩ : ∃ U, ptU xs z = U := ⟨_, rfl⟩
  obtain ⟨D, hD⟩ : ∃ D, ptD xs z = D := ⟨_, rfl⟩
  obtain ⟨r, hr⟩ : ∃ r, (rvB xs && inB z 1 8) = r := ⟨_, rfl⟩
  have CI := Lib.hid (fun w (h : RowI w g1 0 xs) => piecesMiss_as g1 0 c1 m xs z U D w h hm l2 l1 hU hD r hr)
  have CS := Lib.hid (fun w (h : RowI w g1 0 xs) => spiecesMiss_as g1 0 c1 m xs z U D w h hm l1 hU hD r hr)
  have HU := Lib.hid hU
  have HD := Lib.hid hD
  have HR := Lib.hid hr
  clear r1 hU hD hr hm
  go_wp2_with fail
  refine (CI.out _ R1.out).mono ?_
  rintro e w3 ⟨rfl, b3⟩
  have z3 := b3.size
  have R1 := Lib.hid (R1.out.below b3)
  have B3 : Below w.heap.size w w3 := hb2.trans (b3.mono z2)
  clear b3 hb2
  go_wp2_with fail
  obtain ⟨g5, hg5⟩ : ∃ g5, w3.heap.size = g5 := ⟨_, rfl⟩
  have k5 : Blk (w3.alloc (.cells #[.int .i64 U, .int .i64 D] 27)) g5 27 [.int .i64 U, .int .i64 D] := by rw [← hg5]; exact Blk.made w3 #[.int .i64 U, .int .i64 D] 27
  have b4 : Below w3.heap.size w3 (w3.alloc (.cells #[.int .i64 U, .int .i64 D] 27)) := below_alloc
  have R1 := Lib.hid (R1.out.below b4)
  have B4 : Below w.heap.size w (w3.alloc (.cells #[.int .i64 U, .int .i64 D] 27)) := B3.trans (b4.mono (by omega))
  rw [hg5] at z3 ⊢
  obtain ⟨w4, hw4⟩ : ∃ w4, w3.alloc (.cells #[.int .i64 U, .int .i64 D] 27) = w4 := ⟨_, rfl⟩
  rw [hw4] at k5 R1 B4 ⊢
  have z4 : w.heap.size ≤ w4.heap.size := B4.size
  clear hw4 b4 B3 hg5
  refine (CS.out _ R1.out).mono ?_
  rintro e w5 ⟨rfl, b5⟩
  have R1 := Lib.hid (R1.out.below b5)
  have K5 := Lib.hid (k5.below b5)
  have B5 : Below w.heap.size w w5 := B4.trans (b5.mono z4)
  have z5 := b5.size
  have l5 := K5.out.lt
  clear b5 k5 B4
  have x1 := K5.out.cell (j := 0) rfl
  have x2 := K5.out.cell (j := 1) rfl
  cases r with
  | false =>
    go_wp2_with fail
    go_ret
    exact ⟨rfl, B5.alloc B5.size _⟩
  | true =>
    have hr := HR.out
    have hr2 := hr
    rw [Bool.and_eq_true] at hr2
    have hv := rv_of hr2.1
    have m1 := hv.n0
    rw [HM.out] at m1
    have hz8 := inB_iff.1 hr2.2
    obtain ⟨pn, rfl⟩ : ∃ pn : Nat, z = ((pn + 1 : Nat) : Int) := ⟨(z - 1).toNat, by omega⟩
    obtain ⟨q, hq⟩ : ∃ q, cfN misQ xs pn 0 = q := ⟨_, rfl⟩
    have sq := cf_pq hv pn
    have sz := cf_zero hv (m := pn)
    have sr := cf_pq hv (pn + 1)
    have sm := cf_mono hv pn
    rw [HM.out] at sz
    rw [hq] at sq sz sm
    have hUq : U = up q := by rw [← HU.out, ptU, if_pos hr, show (((pn + 1 : Nat) : Int) - 1).toNat = pn by omega, hq]
    have hDq : D = dn q := by rw [← HD.out, ptD, if_pos hr, show (((pn + 1 : Nat) : Int) - 1).toNat = pn by omega, hq]
    subst hUq hDq
    have CT := Lib.hid (fun w (h : RowI w g1 0 xs) => piecesTried_as g1 0 c1 m xs ((pn + 1 : Nat) : Int) (up q) (dn q) w h HM.out l2 l1 HU.out HD.out true hr)
    obtain ⟨f, hf⟩ : ∃ f, inB ((pn + 1 + 1 : Nat) : Int) 1 8 = f := ⟨_, rfl⟩
    obtain ⟨r, hrr⟩ : ∃ r, cfN misQ xs (pn + 1) 0 = r := ⟨_, rfl⟩
    rw [hrr] at sr sm
    have o2 := less_ok (sq.mono (show (6048000 : Int) ≤ 12096000 by omega)) (sr.mono (show (6048000 : Int) ≤ 12096000 by omega))
    have LW := Lib.hid (fun w => lessOf_any q r w (by omega))
    have hd : decide (q < r) = false := by rw [decide_eq_false_iff_not]; grind
    have hf8 := inB_iff (n := ((pn + 1 + 1 : Nat) : Int)) (lo := 1) (hi := 8)
    rw [hf] at hf8
    obtain ⟨V, hV⟩ : ∃ V, ptU xs ((pn + 1 + 1 : Nat) : Int) = V := ⟨_, rfl⟩
    obtain ⟨E, hE⟩ : ∃ E, ptD xs ((pn + 1 + 1 : Nat) : Int) = E := ⟨_, rfl⟩
    have hVr : f = true → V = up r := fun h => by
      subst h
      rw [← hV, ptU, if_pos (by rw [hr2.1, hf]; rfl), show (((pn + 1 + 1 : Nat) : Int) - 1).toNat = pn + 1 by omega, hrr]
    have hEr : f = true → E = dn r := fun h => by
      subst h
      rw [← hE, ptD, if_pos (by rw [hr2.1, hf]; rfl), show (((pn + 1 + 1 : Nat) : Int) - 1).toNat = pn + 1 by omega, hrr]
    have CN := Lib.hid (fun w (h : RowI w g1 0 xs) => piecesMiss_as g1 0 c1 m xs ((pn + 1 + 1 : Nat) : Int) V E w h HM.out l2 l1 hV hE f (by rw [hr2.1, hf]; rfl))
    obtain ⟨P, hP⟩ : ∃ P, pn + 1 = P := ⟨_, rfl⟩
    rw [hP] at CT CN HU HD HR ⊢
    rw [show ((P + 1 : Nat) : Int) = (P : Int) + 1 by omega] at CN
    have hP9 : P ≤ 8 := by omega
    have SZ := Lib.hid (fun (h : m ≤ P) => show up q = 0 by rw [sz (by omega)]; rfl)
    clear hr hr2 hv CI CS sq sz sr sm o2 hf8 hz8 hq hrr hV hE hf hP
    go_upto_region 8 with fail
    obtain ⟨w6, hw6⟩ : ∃ w6, w5.alloc (.cells #[.int .i64 (up q), .int .i64 (dn q)] 27) = w6 := ⟨_, rfl⟩
    have b6 : Below w5.heap.size w5 w6 := by rw [← hw6]; exact below_alloc
    have R1 := Lib.hid (R1.out.below b6)
    have K5 := Lib.hid (K5.out.below b6)
    have B6 : Below w.heap.size w w6 := B5.trans (b6.mono B5.size)
    rw [hw6]
    have z6 := B6.size
    clear hw6 b6 B5 x1 x2 l5
    go_wp2_with (go_at_call 8; refine (CT.out _ R1.out).mono ?_; rintro e w8 ⟨rfl, b8⟩; have z8 := b8.size)
    obtain ⟨g9, hg9⟩ : ∃ g9, w8.heap.size = g9 := ⟨_, rfl⟩
    have k9 : Blk (w8.alloc (.cells #[.int .i64 (up q), .int .i64 (dn q)] 27)) g9 27 [.int .i64 (up q), .int .i64 (dn q)] := by rw [← hg9]; exact Blk.made w8 #[.int .i64 (up q), .int .i64 (dn q)] 27
    have b9 : Below w8.heap.size w8 (w8.alloc (.cells #[.int .i64 (up q), .int .i64 (dn q)] 27)) := below_alloc
    have b69 : Below w6.heap.size w6 (w8.alloc (.cells #[.int .i64 (up q), .int .i64 (dn q)] 27)) := b8.trans (b9.mono (by omega))
    rw [hg9] at z8 ⊢
    obtain ⟨w9, hw9⟩ : ∃ w9, w8.alloc (.cells #[.int .i64 (up q), .int .i64 (dn q)] 27) = w9 := ⟨_, rfl⟩
    rw [hw9] at k9 b69 ⊢
    have R1 := Lib.hid (R1.out.below b69)
    have K5 := Lib.hid (K5.out.below b69)
    have B9 : Below w.heap.size w w9 := B6.trans (b69.mono z6)
    have z9 := B9.size
    clear hw9 b9 b69 B6 b8 hg9
    refine (CN.out _ R1.out).mono ?_
    rintro e w11 ⟨rfl, b11⟩
    have K5 := Lib.hid (K5.out.below b11)
    have K9 := Lib.hid (k9.below b11)
    have B11 : Below w.heap.size w w11 := B9.trans (b11.mono z9)
    have l5 := K5.out.lt
    have l9 := K9.out.lt
    have x1 := K5.out.cell (j := 0) rfl
    have x2 := K5.out.cell (j := 1) rfl
    have x3 := K9.out.cell (j := 0) rfl
    have x4 := K9.out.cell (j := 1) rfl
    have z11 := B11.size
    clear b11 B9 k9
    cases f with
    | false =>
      by_cases hpm : P < m
      · go_wp2_with fail
        go_ret
        exact ⟨rfl, B11.alloc B11.size _⟩
      · have hs := SZ.out (by omega)
        rw [hs] at x1 x3 ⊢
        have hpm2 : ¬ (P : Int) < (m : Int) := by omega
        clear hs
        go_wp2_with fail
        go_ret
        exact ⟨rfl, B11.alloc B11.size _⟩
    | true =>
      obtain rfl : V = up r := hVr rfl
      obtain rfl : E = dn r := hEr rfl
      clear hVr hEr
      by_cases hpm : P < m
      · go_wp2_with (go_at_call 15; refine (LW.out _).mono ?_; rintro e w12 ⟨rfl, b12⟩; obtain ⟨hc12, hf12⟩ := bcell b12; have z12 := b12.size)
        go_ret
        exact ⟨rfl, (B11.alloc B11.size _).trans (b12.mono (by simp; omega))⟩
      · have hs := SZ.out (by omega)
        have hpm2 : ¬ (P : Int) < (m : Int) := by omega
        have HS := Lib.hid hs
        have hs2 : (up q == 0) = true := by rw [hs]; rfl
        clear hs
        go_wp2_with (go_at_call 15; refine (LW.out _).mono ?_; rintro e w12 ⟨rfl, b12⟩; obtain ⟨hc12, hf12⟩ := bcell b12; have z12 := b12.size)
        go_ret
        exact ⟨rfl, (B11.alloc B11.size _).trans (b12.mono (by simp; omega))⟩

set_option maxHeartbeats 1000000 in
theorem FnPiecesMiss_long (ad : Option Addr) (n c : Nat) (w : World) (h : 1048576 < n) (h1 : n ≤ 9223372036854775807) :
    Calls Try.prog 4 #[.slice ad n c] w fun e w' => e = .returned (.bool true) ∧ Below w.heap.size w w' := by
  go_enter Try.func4, Try.ntmps4
  go_wp2_with fail
  go_ret
  exact ⟨rfl, Below.refl _ _⟩

end Go.Proofs.Ytfbccnameppikaa
