/- The law laws.FnCurveAt returns true for all codes, and changes no memory that was there. -/
import Derived.Test.YtoioafadenniiaaCurAt
import Derived.Test.YtoioafadenniiaaCurveDraw
import Derived.Test.YtoioafadenniiaaRevT
namespace Go.Proofs.Ytoioafadenniiaa
open Go.RowKit

theorem turned_c (b o c n : Nat) (xs : List Int) (w : World) (h : RowI w b o xs) (hn : xs.length = n) (hl : n ≤ 1048576) (h1 : 1 ≤ n) :
    Calls Try.prog 24 #[.slice (some ⟨b, o, none⟩) n c] w fun e w' => ∃ g cap, e = .returned (.slice (some ⟨g, 0, none⟩) n cap) ∧ n ≤ cap ∧ RowI w' g 0 (revT xs) ∧ Below w.heap.size w w' := by
  subst hn
  refine (turned_any b o c xs w h hl).mono ?_
  rintro e w' ⟨v, rfl, ho, hb⟩
  obtain ⟨g, cap, rfl, _⟩ := OwnI.shape ho (by omega)
  exact ⟨g, cap, rfl, OwnI.cap ho, (Blk.of_own ho).1.row, hb⟩
theorem caB_of {xs ys : List Int} {x : Int} (h : caB xs ys x = true) : Pl xs ys 5 ∧ Df xs ∧ inB x (-12) 12 = true := by
  unfold caB crB at h
  simp only [Bool.and_eq_true] at h
  exact ⟨pl_of (m := 5) h.1.1, dfB_iff.1 h.1.2, h.2⟩
theorem caB_rev {xs ys : List Int} {x : Int} (h : caB xs ys x = true) : caB (revT xs) (revT ys) x = true := by
  obtain ⟨hp, hd, hx⟩ := caB_of h
  have hl := hp.ne
  unfold caB crB
  simp only [Bool.and_eq_true]
  refine ⟨⟨plB_of (m := 5) ⟨by rw [revT_length]; exact hp.n0, by rw [revT_length]; exact hp.nm, by rw [revT_length, revT_length, hl], fun i hi => ?_, fun i hi => ?_⟩, dfB_iff.2 fun i j hij hj => ?_⟩, hx⟩
  · rw [revT_length] at hi
    rw [gi_revT hi]
    exact hp.x _ (by omega)
  · rw [revT_length] at hi
    rw [gi_revT (by omega)]
    exact hp.y _ (by omega)
  · rw [revT_length] at hj
    rw [gi_revT (by omega), gi_revT hj]
    exact fun e => hd (xs.length - 1 - j) (xs.length - 1 - i) (by omega) (by omega) e.symm
theorem cA_rev {xs ys : List Int} {x : Int} (h : caB xs ys x = true) : cA (revT xs) (revT ys) x xs.length xs.length = cA xs ys x xs.length xs.length := by
  obtain ⟨hp, hd, hx⟩ := caB_of h
  have hl := hp.ne
  exact cA_turn (fun i hi => gi_revT hi) (fun i hi => by rw [gi_revT (by omega), hl]) hd rfl (by have := hp.n0; omega) x

set_option maxHeartbeats 8000000 in
set_option maxRecDepth 100000 in
theorem FnCurveAt_main (ad : Option Addr) (n c : Nat) (w : World) (h : CodeB w w.heap.size ad n) (hn : n ≤ 1048576) (hc : n ≤ c) :
    Calls Try.prog 5 #[.slice ad n c] w fun e w' => e = .returned (.bool true) ∧ Below w.heap.size w w' := by
  have H := Lib.hid h
  clear h
  go_enter Try.func5, Try.ntmps5
  go_wp2_with fail
  refine (drawCurveAt_any ad n c w H.out (by omega) hc).mono ?_
  rintro e w2 ⟨g1, c1, g2, c2, xs, ys, x, rfl, k1, k2, r1, r2, l1, l2, hb2⟩
  have R1 := Lib.hid r1
  have R2 := Lib.hid r2
  have z2 := hb2.size
  have CI := Lib.hid (fun w (h : RowI w g1 0 xs) (h' : RowI w g2 0 ys) => curAt_all g1 0 c1 g2 0 c2 xs ys x w h h' (by omega) (by omega) (by omega))
  have CS := Lib.hid (fun w (h : RowI w g1 0 xs) (h' : RowI w g2 0 ys) => scurAt_all g1 0 c1 g2 0 c2 xs ys x w h h' (by omega) (by omega))
  obtain ⟨U, hU⟩ : ∃ U, caU xs ys x = U := ⟨_, rfl⟩
  obtain ⟨D, hD⟩ : ∃ U, caD xs ys x = U := ⟨_, rfl⟩
  obtain ⟨ok, hok⟩ : ∃ U, caB xs ys x = U := ⟨_, rfl⟩
  rw [hU, hD, hok] at CI CS
  have CT : ok = true → xs.length = ys.length ∧ 1 ≤ xs.length ∧ (∀ w g c g' c', RowI w g 0 (revT xs) → RowI w g' 0 (revT ys) → xs.length ≤ c → Calls Try.prog 22 #[.slice (some ⟨g, 0, none⟩) xs.length c, .slice (some ⟨g', 0, none⟩) xs.length c', .int .i64 x] w
      fun e w' => e = .returned (.tuple #[.agg #[.int .i64 U, .int .i64 D], .bool true]) ∧ Below w.heap.size w w') := by
    intro h
    rw [h] at hok
    obtain ⟨hp, hd, hx⟩ := caB_of hok
    have hr := caB_rev hok
    have he := cA_rev hok
    refine ⟨hp.ne.symm, hp.n0, fun w g c g' c' h h' hc => ?_⟩
    have := curAt_all g 0 c g' 0 c' (revT xs) (revT ys) x w h h' (by rw [revT_length]; omega) (by rw [revT_length]; omega) (by rw [revT_length]; exact hc)
    unfold caU caD at this
    rw [hr, revT_length, revT_length, hp.ne, if_pos rfl, if_pos rfl, he] at this
    unfold caU at hU
    unfold caD at hD
    rw [hok, if_pos rfl] at hU hD
    rw [← hU, ← hD]
    exact this
  have CT := Lib.hid CT
  obtain ⟨m, hm⟩ : ∃ m, xs.length = m := ⟨_, rfl⟩
  obtain ⟨m', hm'⟩ : ∃ m, ys.length = m := ⟨_, rfl⟩
  have HM := Lib.hid hm
  have HM' := Lib.hid hm'
  rw [hm] at CI CS CT l1 ⊢
  rw [hm'] at CI CS CT l2 ⊢
  clear r1 r2 hU hD hok hm hm'
  go_upto_region 5 with (go_at_call 22; refine (CI.out _ R1.out R2.out).mono ?_; rintro e w3 ⟨rfl, b3⟩)
  obtain ⟨g5, hg5⟩ : ∃ g, w3.heap.size = g := ⟨_, rfl⟩
  rw [hg5]
  have z3 := b3.size
  refine wp_abstract (fun W => Blk W g5 31 [.int .i64 U, .int .i64 D] ∧ Below w2.heap.size w2 W) ⟨Blk.made' _ hg5.symm rfl, by (repeat' (first | (with_reducible exact Below.refl _ _) | (with_reducible assumption) | (with_reducible refine Below.drewN ?_ _) | (with_reducible refine Below.alloc ?_ ?_ _) | (with_reducible refine Below.drew ?_) | (with_reducible refine Below.setCell ?_ ?_ _) | (with_reducible refine Below.trans ?_ (Below.mono (by assumption) ?_)) | go_size | (with_reducible refine Nat.le_trans ?_ (Below.size (by assumption)))))⟩ ?_
  rintro w4 ⟨k5, b4⟩
  have R1 := Lib.hid (R1.out.below b4)
  have R2 := Lib.hid (R2.out.below b4)
  have K5 := Lib.hid k5
  have B4 := Lib.hid (hb2.trans (b4.mono z2))
  have z4 := b4.size
  clear k5 b4 b3 hb2 hg5 z3
  go_upto_region 6 with (go_at_call 23; refine (CS.out _ R1.out R2.out).mono ?_; rintro e w5 ⟨rfl, b5⟩)
  obtain ⟨g8, hg8⟩ : ∃ g, w5.heap.size = g := ⟨_, rfl⟩
  rw [hg8]
  have z5 := b5.size
  refine wp_abstract (fun W => Blk W g8 31 [.int .i64 U, .int .i64 D] ∧ Below w4.heap.size w4 W) ⟨Blk.made' _ hg8.symm rfl, by (repeat' (first | (with_reducible exact Below.refl _ _) | (with_reducible assumption) | (with_reducible refine Below.drewN ?_ _) | (with_reducible refine Below.alloc ?_ ?_ _) | (with_reducible refine Below.drew ?_) | (with_reducible refine Below.setCell ?_ ?_ _) | (with_reducible refine Below.trans ?_ (Below.mono (by assumption) ?_)) | go_size | (with_reducible refine Nat.le_trans ?_ (Below.size (by assumption)))))⟩ ?_
  rintro w6 ⟨k8, b6⟩
  have z6 := b6.size
  have R1 := Lib.hid (R1.out.below b6)
  have R2 := Lib.hid (R2.out.below b6)
  have K5 := Lib.hid (K5.out.below b6)
  have B6 := Lib.hid (B4.out.trans (b6.mono (by omega)))
  have x1 := K5.out.cell (j := 0) rfl
  have x2 := K5.out.cell (j := 1) rfl
  have x5 := k8.cell (j := 0) rfl
  have x6 := k8.cell (j := 1) rfl
  clear k8 b6 b5 hg8 z5 B4
  cases ok with
  | false =>
    go_wp2_with fail
    go_ret
    exact ⟨rfl, B6.out⟩
  | true =>
    obtain ⟨hmm, hm1, ct⟩ := CT.out rfl
    have CTT := Lib.hid ct
    have z66 := B6.out.size
    subst hmm
    have T1 := Lib.hid (fun w (h : RowI w g1 0 xs) => turned_c g1 0 c1 m xs w h HM.out (by omega) hm1)
    have T2 := Lib.hid (fun w (h : RowI w g2 0 ys) => turned_c g2 0 c2 m ys w h HM'.out (by omega) hm1)
    clear ct
    go_upto_region 8 with fail
    clear x1 x2 x5 x6
    go_upto_region 9 with (first
      | (go_at_call_of 24 g1; refine (T1.out _ R1.out).mono ?_; rintro e w7 ⟨ga, ca, rfl, hca, ra, b7⟩; have z7 := b7.size)
      | (go_at_call_of 24 g2; refine (T2.out _ (R2.out.below b7)).mono ?_; rintro e w8 ⟨gb, cb, rfl, hcb, rb, b8⟩; have z8 := b8.size)
      | (go_at_call 22; refine (CTT.out _ _ _ _ _ (ra.below b8) rb hca).mono ?_; rintro e w9 ⟨rfl, b9⟩; have z9 := b9.size))
    have B9 := Lib.hid (B6.out.trans ((b7.trans ((b8.trans (b9.mono z8)).mono z7)).mono z66))
    have K5 := Lib.hid (((K5.out.below b7).below b8).below b9)
    obtain ⟨g9, hg9⟩ : ∃ g, w9.heap.size = g := ⟨_, rfl⟩
    rw [hg9]
    have hz9 := B9.out.size
    refine wp_abstract (fun W => Blk W g9 31 [.int .i64 U, .int .i64 D] ∧ Blk W g5 31 [.int .i64 U, .int .i64 D] ∧ Below w.heap.size w W) ⟨Blk.made' _ hg9.symm rfl, K5.out.allocs _, by have := B9.out; (repeat' (first | (with_reducible exact Below.refl _ _) | (with_reducible assumption) | (with_reducible refine Below.drewN ?_ _) | (with_reducible refine Below.alloc ?_ ?_ _) | (with_reducible refine Below.drew ?_) | (with_reducible refine Below.setCell ?_ ?_ _) | (with_reducible refine Below.trans ?_ (Below.mono (by assumption) ?_)) | go_size | (with_reducible refine Nat.le_trans ?_ (Below.size (by assumption)))))⟩ ?_
    rintro wa ⟨k9, k5, ba⟩
    have x1 := k5.cell (j := 0) rfl
    have x2 := k5.cell (j := 1) rfl
    have x5 := k9.cell (j := 0) rfl
    have x6 := k9.cell (j := 1) rfl
    have BA := Lib.hid ba
    clear k5 k9 ba b7 b8 b9 ra rb
    go_wp2_with fail
    go_ret
    exact ⟨rfl, BA.out⟩

set_option maxHeartbeats 400000 in
theorem FnCurveAt_long (ad : Option Addr) (n c : Nat) (w : World) (h : 1048576 < n) (h1 : n ≤ 9223372036854775807) :
    Calls Try.prog 5 #[.slice ad n c] w fun e w' => e = .returned (.bool true) ∧ Below w.heap.size w w' := by
  go_enter Try.func5, Try.ntmps5
  go_wp2_with fail
  go_ret
  exact ⟨rfl, Below.refl _ _⟩

end Go.Proofs.Ytoioafadenniiaa
