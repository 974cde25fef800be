/- The law laws.FnPiecesTried returns true for all codes, and changes no memory that was there. -/
import Derived.Test.YtfbccnameppikaaTriedAll
import Derived.Test.YtfbccnameppikaaStepsGen
import Derived.Test.YtfbccnameppikaaSmall3
namespace Go.Proofs.Ytfbccnameppikaa
open Go.RowKit

theorem tab_rev (xs : List Int) : tabI (fun j => gi xs (xs.length - 1 - j)) xs.length = xs.reverse := by
  refine eq_of_gi (by rw [tabI_length, List.length_reverse]) fun k hk => ?_
  rw [tabI_length] at hk
  rw [gi_tabI hk, gi_eq (by omega), gi_eq (by rw [List.length_reverse]; exact hk)]
  simp
theorem tab_neg (xs : List Int) : tabI (fun j => - gi xs j) xs.length = ngL xs := by
  refine eq_of_gi (by rw [tabI_length, ngL_length]) fun k hk => ?_
  rw [tabI_length] at hk
  rw [gi_tabI hk, gi_eq hk, gi_eq (by rw [ngL_length]; exact hk)]
  unfold ngL
  simp
theorem rvB_of {xs : List Int} (h : Rv xs) : rvB xs = true := by
  have h0 := h.n0
  have h8 := h.n8
  simp only [rvB, Bool.and_eq_true]
  exact ⟨inB_iff.2 (by omega), allB_iff.2 fun k hk => inB_iff.2 (h.x.at hk)⟩
theorem Rv.rev {xs : List Int} (h : Rv xs) : Rv xs.reverse := by
  have h0 := h.n0
  have h8 := h.n8
  exact ⟨by rw [List.length_reverse]; exact h0, by rw [List.length_reverse]; exact h8, fun x hx => h.x x (List.mem_reverse.1 hx)⟩
theorem Rv.neg {xs : List Int} (h : Rv xs) : Rv (ngL xs) := by
  have h0 := h.n0
  have h8 := h.n8
  refine ⟨by rw [ngL_length]; exact h0, by rw [ngL_length]; exact h8, fun x hx => ?_⟩
  unfold ngL at hx
  obtain ⟨y, hy, rfl⟩ := List.mem_map.1 hx
  have := h.x y hy
  omega
theorem cf_rev {xs : List Int} (h : Rv xs) (m : Nat) : cfN misQ xs.reverse m 0 = cfN misQ xs m 0 := by
  have a := cfN_least misQ xs m 0 h.n0
  have b := cfN_least misQ xs.reverse m 0 h.rev.n0
  rw [List.drop_zero] at a b
  exact b.uniq (a.rev misQ_rev)
theorem cf_neg {xs : List Int} (h : Rv xs) (m : Nat) : cfN misQ (ngL xs) m 0 = cfN misQ xs m 0 := by
  have a := cfN_least misQ xs m 0 h.n0
  have b := cfN_least misQ (ngL xs) m 0 h.neg.n0
  rw [List.drop_zero] at a b
  exact b.uniq (a.neg misQ_neg)
theorem pt_rev {xs : List Int} (h : Rv xs) (p : Int) : ptU xs.reverse p = ptU xs p ∧ ptD xs.reverse p = ptD xs p := by
  unfold ptU ptD
  rw [rvB_of h, rvB_of h.rev, cf_rev h]
  exact ⟨rfl, rfl⟩
theorem pt_neg {xs : List Int} (h : Rv xs) (p : Int) : ptU (ngL xs) p = ptU xs p ∧ ptD (ngL xs) p = ptD xs p := by
  unfold ptU ptD
  rw [rvB_of h, rvB_of h.neg, cf_neg h]
  exact ⟨rfl, rfl⟩

/-- 'turned', and 'negated', of a row that is not empty, its length by name. -/
theorem turned_as (b o c n : Nat) (xs : List Int) (w : World) (h : RowI w b o xs) (hn : xs.length = n) (hl : n ≤ 1048576) (h1 : 1 ≤ n) :
    Calls Try.prog 10 #[.slice (some ⟨b, o, none⟩) n c] w fun e w' => ∃ g cap, e = .returned (.slice (some ⟨g, 0, none⟩) n cap) ∧ w.heap.size ≤ g ∧ n ≤ cap ∧ RowI w' g 0 xs.reverse ∧ Below w.heap.size w w' := by
  subst hn
  refine (turned_any b o c xs w h hl).mono ?_
  rintro e w' ⟨v, rfl, ho, hb⟩
  obtain ⟨g, cap, rfl, hg⟩ := ho.shape (by omega)
  rw [tab_rev] at ho
  exact ⟨g, cap, rfl, hg, ho.cap, ho.row, hb⟩
theorem negated_as (b o c n : Nat) (xs : List Int) (w : World) (h : RowI w b o xs) (hn : xs.length = n) (hl : n ≤ 1048576) (h1 : 1 ≤ n) (h30 : In30 xs) :
    Calls Try.prog 11 #[.slice (some ⟨b, o, none⟩) n c] w fun e w' => ∃ g cap, e = .returned (.slice (some ⟨g, 0, none⟩) n cap) ∧ w.heap.size ≤ g ∧ n ≤ cap ∧ RowI w' g 0 (ngL xs) ∧ Below w.heap.size w w' := by
  subst hn
  refine (negated_any b o c xs w h hl (fun k hk => by have := h30.at hk; omega)).mono ?_
  rintro e w' ⟨v, rfl, ho, hb⟩
  obtain ⟨g, cap, rfl, hg⟩ := ho.shape (by omega)
  rw [tab_neg] at ho
  exact ⟨g, cap, rfl, hg, ho.cap, ho.row, hb⟩
theorem piecesTried_as (b o c n : Nat) (xs : List Int) (p U D : Int) (w : World) (h : RowI w b o xs) (hn : xs.length = n) (hc : n ≤ c) (h17 : n ≤ 17) (hU : ptU xs p = U) (hD : ptD xs p = D) (r : Bool) (hr : (rvB xs && inB p 1 8) = r) :
    Calls Try.prog 8 #[.slice (some ⟨b, o, none⟩) n c, .int .i64 p] w fun e w' => e = .returned (.tuple #[.agg #[.int .i64 U, .int .i64 D], .bool r]) ∧ Below w.heap.size w w' := by
  subst hn hU hD hr
  exact piecesTried_any b o c xs p w h (by omega) hc
theorem spiecesTried_as (b o c n : Nat) (xs : List Int) (p U D : Int) (w : World) (h : RowI w b o xs) (hn : xs.length = n) (h17 : n ≤ 17) (hU : ptU xs p = U) (hD : ptD xs p = D) (r : Bool) (hr : (rvB xs && inB p 1 8) = r) :
    Calls Try.prog 9 #[.slice (some ⟨b, o, none⟩) n c, .int .i64 p] w fun e w' => e = .returned (.tuple #[.agg #[.int .i64 U, .int .i64 D], .bool r]) ∧ Below w.heap.size w w' := by
  subst hn hU hD hr
  exact spiecesTried_any b o c xs p w h (by omega)

set_option maxHeartbeats 8000000 in
set_option maxRecDepth 100000 in
theorem FnPiecesTried_main (ad : Option Addr) (n c : Nat) (w : World) (h : CodeB w w.heap.size ad n) (hn : n ≤ 1048576) (hc : n ≤ c) :
    Calls Try.prog 3 #[.slice ad n c] w fun e w' => e = .returned (.bool true) ∧ Below w.heap.size w w' := by
  have H := Lib.hid h
  clear h
  go_enter Try.func3, Try.ntmps3
  go_wp2_with fail
  refine (drawPiecesTried_any ad n c w H.out (by omega) hc).mono ?_
  rintro e w2 ⟨g1, c1, xs, z, rfl, k1, r1, l1, l2, hb2⟩
  obtain ⟨m, hm⟩ : ∃ m, xs.length = m := ⟨_, rfl⟩
  rw [hm] at l1 l2 ⊢
  have HM := Lib.hid hm
  have R1 := Lib.hid r1
  have z2 := hb2.size
  obtain ⟨U, hU⟩ : ∃ U, ptU xs z = U := ⟨_, rfl⟩
  obtain ⟨D, hD⟩ : ∃ D, ptD xs z = D := ⟨_, rfl⟩
  obtain ⟨r, hr⟩ : ∃ r, (rvB xs && inB z 1 8) = r := ⟨_, rfl⟩
  have CI := Lib.hid (fun w (h : RowI w g1 0 xs) => piecesTried_as g1 0 c1 m xs z U D w h hm l2 l1 hU hD r hr)
  have CS := Lib.hid (fun w (h : RowI w g1 0 xs) => spiecesTried_as g1 0 c1 m xs z U D w h hm l1 hU hD r hr)
  have HU := Lib.hid hU
  have HD := Lib.hid hD
  have HR := Lib.hid hr
  clear r1 hU hD hr hm
  go_wp2_with fail
  refine (CI.out _ R1.out).mono ?_
  rintro e w3 ⟨rfl, b3⟩
  have z3 := b3.size
  have R1 := Lib.hid (R1.out.below b3)
  have B3 : Below w.heap.size w w3 := hb2.trans (b3.mono z2)
  clear b3 hb2
  go_wp2_with fail
  obtain ⟨g5, hg5⟩ : ∃ g5, w3.heap.size = g5 := ⟨_, rfl⟩
  have k5 : Blk (w3.alloc (.cells #[.int .i64 U, .int .i64 D] 27)) g5 27 [.int .i64 U, .int .i64 D] := by rw [← hg5]; exact Blk.made w3 #[.int .i64 U, .int .i64 D] 27
  have b4 : Below w3.heap.size w3 (w3.alloc (.cells #[.int .i64 U, .int .i64 D] 27)) := below_alloc
  have R1 := Lib.hid (R1.out.below b4)
  have B4 : Below w.heap.size w (w3.alloc (.cells #[.int .i64 U, .int .i64 D] 27)) := B3.trans (b4.mono (by omega))
  rw [hg5] at z3 ⊢
  obtain ⟨w4, hw4⟩ : ∃ w4, w3.alloc (.cells #[.int .i64 U, .int .i64 D] 27) = w4 := ⟨_, rfl⟩
  rw [hw4] at k5 R1 B4 ⊢
  have z4 : w.heap.size ≤ w4.heap.size := B4.size
  clear hw4 b4 B3 hg5
  refine (CS.out _ R1.out).mono ?_
  rintro e w5 ⟨rfl, b5⟩
  have R1 := Lib.hid (R1.out.below b5)
  have K5 := Lib.hid (k5.below b5)
  have B5 : Below w.heap.size w w5 := B4.trans (b5.mono z4)
  have z5 := b5.size
  have l5 := K5.out.lt
  clear b5 k5 B4
  have x1 := K5.out.cell (j := 0) rfl
  have x2 := K5.out.cell (j := 1) rfl
  cases r with
  | false =>
    go_wp2_with fail
    go_ret
    exact ⟨rfl, B5.alloc B5.size _⟩
  | true =>
    have hr := HR.out
    have hr2 := hr
    rw [Bool.and_eq_true] at hr2
    have hv := rv_of hr2.1
    have m1 := hv.n0
    rw [HM.out] at m1
    have pr := pt_rev hv z
    have pn := pt_neg hv z
    rw [HU.out, HD.out] at pr pn
    have CT := Lib.hid (fun w (h : RowI w g1 0 xs) => turned_as g1 0 c1 m xs w h HM.out (by omega) m1)
    have CN := Lib.hid (fun w (h : RowI w g1 0 xs) => negated_as g1 0 c1 m xs w h HM.out (by omega) m1 hv.x)
    have CA := Lib.hid (fun g cap w (hc : m ≤ cap) (h : RowI w g 0 xs.reverse) => piecesTried_as g 0 cap m xs.reverse z U D w h (by rw [List.length_reverse, HM.out]) hc l1 pr.1 pr.2 true (by rw [rvB_of hv.rev, hr2.2]; rfl))
    have CB := Lib.hid (fun g cap w (hc : m ≤ cap) (h : RowI w g 0 (ngL xs)) => piecesTried_as g 0 cap m (ngL xs) z U D w h (by rw [ngL_length, HM.out]) hc l1 pn.1 pn.2 true (by rw [rvB_of hv.neg, hr2.2]; rfl))
    clear hr hr2 hv pr pn CI CS
    go_upto_region 8 with fail
    obtain ⟨w6, hw6⟩ : ∃ w6, w5.alloc (.cells #[.int .i64 U, .int .i64 D] 27) = w6 := ⟨_, rfl⟩
    have b6 : Below w5.heap.size w5 w6 := by rw [← hw6]; exact below_alloc
    have R1 := Lib.hid (R1.out.below b6)
    have K5 := Lib.hid (K5.out.below b6)
    have B6 : Below w.heap.size w w6 := B5.trans (b6.mono B5.size)
    rw [hw6]
    have z6 := B6.size
    clear hw6 b6 B5 x1 x2 l5
    go_wp2_with (first
      | (go_at_call 10; refine (CT.out _ R1.out).mono ?_; rintro e w7 ⟨g7, cap7, rfl, _, hc7, r7, b7⟩; have z7 := b7.size)
      | (go_at_call 8; refine (CA.out g7 cap7 w7 hc7 r7).mono ?_; rintro e w8 ⟨rfl, b8⟩; have z8 := b8.size))
    obtain ⟨g9, hg9⟩ : ∃ g9, w8.heap.size = g9 := ⟨_, rfl⟩
    have k9 : Blk (w8.alloc (.cells #[.int .i64 U, .int .i64 D] 27)) g9 27 [.int .i64 U, .int .i64 D] := by rw [← hg9]; exact Blk.made w8 #[.int .i64 U, .int .i64 D] 27
    have b9 : Below w8.heap.size w8 (w8.alloc (.cells #[.int .i64 U, .int .i64 D] 27)) := below_alloc
    have b69 : Below w6.heap.size w6 (w8.alloc (.cells #[.int .i64 U, .int .i64 D] 27)) := (b7.trans (b8.mono z7)).trans (b9.mono (by omega))
    rw [hg9] at z8 ⊢
    obtain ⟨w9, hw9⟩ : ∃ w9, w8.alloc (.cells #[.int .i64 U, .int .i64 D] 27) = w9 := ⟨_, rfl⟩
    rw [hw9] at k9 b69 ⊢
    have R1 := Lib.hid (R1.out.below b69)
    have K5 := Lib.hid (K5.out.below b69)
    have B9 : Below w.heap.size w w9 := B6.trans (b69.mono z6)
    have z9 := B9.size
    clear hw9 b9 b69 B6 b7 b8 hg9 r7
    refine (CN.out _ R1.out).mono ?_
    rintro e w10 ⟨g10, cap10, rfl, _, hc10, r10, b10⟩
    have z10 := b10.size
    go_wp2_with fail
    refine (CB.out g10 cap10 w10 hc10 r10).mono ?_
    rintro e w11 ⟨rfl, b11⟩
    have K5 := Lib.hid ((K5.out.below b10).below b11)
    have K9 := Lib.hid ((k9.below b10).below b11)
    have B11 : Below w.heap.size w w11 := (B9.trans (b10.mono z9)).trans (b11.mono (by omega))
    have l5 := K5.out.lt
    have l9 := K9.out.lt
    have x1 := K5.out.cell (j := 0) rfl
    have x2 := K5.out.cell (j := 1) rfl
    have x3 := K9.out.cell (j := 0) rfl
    have x4 := K9.out.cell (j := 1) rfl
    clear b10 b11 B9 k9 r10
    go_wp2_with fail
    go_ret
    exact ⟨rfl, B11.alloc B11.size _⟩

set_option maxHeartbeats 1000000 in
theorem FnPiecesTried_long (ad : Option Addr) (n c : Nat) (w : World) (h : 1048576 < n) (h1 : n ≤ 9223372036854775807) :
    Calls Try.prog 3 #[.slice ad n c] w fun e w' => e = .returned (.bool true) ∧ Below w.heap.size w w' := by
  go_enter Try.func3, Try.ntmps3
  go_wp2_with fail
  go_ret
  exact ⟨rfl, Below.refl _ _⟩

end Go.Proofs.Ytfbccnameppikaa
