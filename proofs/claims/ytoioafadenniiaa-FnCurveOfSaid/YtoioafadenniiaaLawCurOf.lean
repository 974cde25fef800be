/- The law laws.FnCurveOf returns true for all codes, and changes no memory that was there. -/
import Derived.Test.YtoioafadenniiaaLawCurAt
import Derived.Test.YtoioafadenniiaaSmall2
namespace Go.Proofs.Ytoioafadenniiaa
open Go.RowKit

theorem fc_split (L : List Rat) (p : Nat) : fc L = fc (L.take p) ++ fc (L.drop p) := by
  have : ∀ A B : List Rat, fc (A ++ B) = fc A ++ fc B := fun A B => by
    induction A with
    | nil => rfl
    | cons a A ih => simp [fc, ih]
  rw [← this, List.take_append_drop]
theorem Blk.pre {w : World} {g : Nat} {e : TypeId} {a b : List Value} (h : Blk w g e (a ++ b)) : Blk w g e a := by
  obtain ⟨cur, h1, h2⟩ := h
  refine ⟨cur, h1, ?_⟩
  have := congrArg (List.take a.length) h2
  rw [List.take_take, List.take_left, List.length_append, Nat.min_eq_left (by omega)] at this
  exact this
theorem take_len {xs : List Int} {p : Nat} (h : p ≤ xs.length) : (xs.take p).length = p := by rw [List.length_take]; omega
theorem dd_take {xs ys : List Int} {p : Nat} (hx : p ≤ xs.length) (hy : p ≤ ys.length) : ∀ k i, i + k < p → dd (xs.take p) (ys.take p) k i = dd xs ys k i
  | 0, i, h => by
    show qd (gi (ys.take p) i) 1 = qd (gi ys i) 1
    rw [gi_takeI (by omega) hy]
  | k + 1, i, h => by
    show (dd (xs.take p) (ys.take p) k (i + 1) - dd (xs.take p) (ys.take p) k i) * qd 1 (gi (xs.take p) (i + (k + 1)) - gi (xs.take p) i) = (dd xs ys k (i + 1) - dd xs ys k i) * qd 1 (gi xs (i + (k + 1)) - gi xs i)
    rw [dd_take hx hy k (i + 1) (by omega), dd_take hx hy k i (by omega), gi_takeI (by omega) hx, gi_takeI (by omega) hx]
theorem cr_take {xs ys : List Int} {p : Nat} (hp : Pl xs ys 5) (hd : Df xs) (h1 : 1 ≤ p) (h2 : p ≤ xs.length) : crV (xs.take p) (ys.take p) = (cvL xs ys xs.length).take p := by
  have hl := hp.ne
  have e : crB (xs.take p) (ys.take p) = true := by
    unfold crB
    rw [Bool.and_eq_true]
    refine ⟨plB_of (m := 5) ⟨by rw [take_len h2]; exact h1, by rw [take_len h2]; have := hp.nm; omega, by rw [take_len h2, take_len (by omega)], fun i hi => ?_, fun i hi => ?_⟩, dfB_iff.2 fun i j hij hj => ?_⟩
    · rw [take_len h2] at hi
      rw [gi_takeI hi h2]
      exact hp.x i (by omega)
    · rw [take_len h2] at hi
      rw [gi_takeI hi (by omega)]
      exact hp.y i (by omega)
    · rw [take_len h2] at hj
      rw [gi_takeI (by omega) h2, gi_takeI hj h2]
      exact hd i j hij (by omega)
  unfold crV
  rw [if_pos e]
  unfold cvL
  refine List.ext_getElem? fun k => ?_
  rw [take_len h2, List.getElem?_take]
  unfold tab
  by_cases hk : k < p
  · rw [if_pos hk, List.getElem?_map, List.getElem?_map, List.getElem?_range hk, List.getElem?_range (by omega)]
    simp only [Option.map_some]
    rw [dd_take h2 (by omega) k 0 (by omega)]
  · rw [if_neg hk, List.getElem?_eq_none (by rw [List.length_map, List.length_range]; omega)]

theorem curveOf_yes (b o c b' o' c' n : Nat) (xs ys : List Int) (w : World) (h : RowI w b o xs) (h' : RowI w b' o' ys) (hv : crB xs ys = true) (hn : xs.length = n) (hcap : n ≤ c) :
    Calls Try.prog 12 #[.slice (some ⟨b, o, none⟩) n c, .slice (some ⟨b', o', none⟩) n c'] w
      fun e w' => ∃ g, e = .returned (.slice (some ⟨g, 0, none⟩) n n) ∧ w.heap.size ≤ g ∧ Blk w' g 31 (fc (cvL xs ys n)) ∧ Below w.heap.size w w' := by
  unfold crB at hv
  rw [Bool.and_eq_true] at hv
  have CC := Lib.hid (curve_pl b o c b' o' c' n xs ys true w h h' hv.1 hn hcap hv.2)
  clear h h' hv hn hcap
  go_enter Try.func12, Try.ntmps12
  go_wp2_with (go_at_call 45; refine CC.out.mono ?_; rintro e w1 ⟨v, rfl, hr, hb⟩; have HR := Lib.hid hr; clear hr)
  go_ret
  rcases HR.out with ⟨h, _⟩ | ⟨_, g, rfl, hg, k⟩
  · cases h
  · exact ⟨g, rfl, hg, k, hb⟩

set_option maxHeartbeats 8000000 in
set_option maxRecDepth 100000 in
theorem FnCurveOf_main (ad : Option Addr) (n c : Nat) (w : World) (h : CodeB w w.heap.size ad n) (hn : n ≤ 1048576) (hc : n ≤ c) :
    Calls Try.prog 7 #[.slice ad n c] w fun e w' => e = .returned (.bool true) ∧ Below w.heap.size w w' := by
  have H := Lib.hid h
  clear h
  go_enter Try.func7, Try.ntmps7
  go_wp2_with fail
  refine (drawCurveOf_any ad n c w H.out (by omega) hc).mono ?_
  rintro e w2 ⟨g1, c1, g2, c2, xs, ys, rfl, k1, k2, r1, r2, l1, l2, hb2⟩
  have R1 := Lib.hid r1
  have R2 := Lib.hid r2
  have z2 := hb2.size
  have HB2 := Lib.hid hb2
  obtain ⟨L, hL⟩ : ∃ L, crV xs ys = L := ⟨_, rfl⟩
  have CI := Lib.hid (fun w (h : RowI w g1 0 xs) (h' : RowI w g2 0 ys) => curveOf_all g1 0 c1 g2 0 c2 xs ys w h h' (by omega) (by omega) l1.2)
  have CS := Lib.hid (fun w (h : RowI w g1 0 xs) (h' : RowI w g2 0 ys) => scurveOf_all g1 0 c1 g2 0 c2 xs ys w h h' (by omega) (by omega))
  rw [hL] at CI CS
  have hLl : L.length ≤ 1048576 := by rw [← hL]; exact crV_le (by omega)
  obtain ⟨q, hq⟩ : ∃ q, L.length = q := ⟨_, rfl⟩
  have EQ := Lib.hid (fun v v' B B' w (h : Mut 31 w B v q (fc L)) (h' : Mut 31 w B' v' q (fc L)) => equalFracs_any v v' B B' q L w h h' hq (by omega))
  obtain ⟨m, hm⟩ : ∃ m, xs.length = m := ⟨_, rfl⟩
  obtain ⟨m', hm'⟩ : ∃ m, ys.length = m := ⟨_, rfl⟩
  have HM := Lib.hid hm
  have HM' := Lib.hid hm'
  have HL := Lib.hid hL
  have HQL := Lib.hid hq
  rw [hm, hm', hq] at CI CS
  rw [hm] at l1 ⊢
  rw [hm'] at l2 ⊢
  clear r1 r2 hb2 hm hm' hL hLl hq
  by_cases h0 : q = 0
  · subst h0
    go_upto_region 5 with (go_at_call 12; refine (CI.out _ R1.out R2.out).mono ?_; rintro e w3 ⟨v3, rfl, m3, b3⟩; have z3 := b3.size)
    obtain ⟨A, c3, rfl⟩ : ∃ A c, v3 = .slice A 0 c := by
      rcases m3 with ⟨h, _, _⟩ | ⟨g, c, h, _, _⟩
      · exact ⟨_, _, h⟩
      · exact ⟨_, _, h⟩
    have M3 := Lib.hid m3
    have R1 := Lib.hid (R1.out.below b3)
    have R2 := Lib.hid (R2.out.below b3)
    have B3 := Lib.hid (HB2.out.trans (b3.mono z2))
    clear m3 b3 CI
    go_upto_region 6 with (first
      | (go_at_call 10; refine (CS.out _ R1.out R2.out).mono ?_; rintro e w4 ⟨v4, rfl, m4, b4⟩; have z4 := b4.size)
      | (go_at_call 33; refine (EQ.out _ _ _ _ _ (M3.out.below b4) m4).mono ?_; rintro e w5 ⟨rfl, b5⟩; have z5 := b5.size))
    have M5 := Lib.hid ((M3.out.below b4).below b5)
    have R1 := Lib.hid ((R1.out.below b4).below b5)
    have R2 := Lib.hid ((R2.out.below b4).below b5)
    have B5 := Lib.hid (B3.out.trans ((b4.trans (b5.mono z4)).mono B3.out.size))
    clear m4 b4 b5 M3 B3
    go_wp2_with (first
      | (go_at_call 10; refine (CS.out _ R1.out R2.out).mono ?_; rintro e w6 ⟨v6, rfl, m6, b6⟩; have z6 := b6.size)
      | (go_at_call 33; refine (EQ.out _ _ _ _ _ (M5.out.below b6) m6).mono ?_; rintro e w7 ⟨rfl, b7⟩))
    go_ret
    exact ⟨rfl, B5.out.trans ((b6.trans (b7.mono z6)).mono B5.out.size)⟩
  · have hcr : crB xs ys = true := by
      cases hb : crB xs ys with
      | true => rfl
      | false =>
        exfalso
        have := HL.out
        unfold crV at this
        rw [hb] at this
        rw [← HQL.out, ← this] at h0
        exact h0 rfl
    have hpd : Pl xs ys 5 ∧ Df xs := by
      have := hcr
      unfold crB at this
      rw [Bool.and_eq_true] at this
      exact ⟨pl_of (m := 5) this.1, dfB_iff.1 this.2⟩
    have hmm : m' = m := by rw [← HM.out, ← HM'.out]; exact hpd.1.ne
    have hLc : L = cvL xs ys m := by rw [← HL.out, ← HM.out]; unfold crV; rw [if_pos hcr]
    have hqm : q = m := by rw [← HQL.out, hLc]; exact tab_length _ _
    have hm2 : m' = q := hmm.trans hqm.symm
    have hm1 : m = q := hqm.symm
    rw [hm2] at CI CS l2 HM' ⊢
    rw [hm1] at CI CS l1 HM hLc ⊢
    clear hmm hqm hm1 hm2
    have n5 := hpd.1.nm
    have n1 := hpd.1.n0
    rw [HM.out] at n5 n1
    have CA := Lib.hid (fun i (hi : i < q) w (h : RowI w g1 0 xs) (h' : RowI w g2 0 ys) => (by
      have hx := hpd.1.x i (by rw [HM.out]; exact hi)
      have hca : caB xs ys (gi xs i) = true := by unfold caB; rw [hcr, Bool.true_and]; exact inB_iff.2 ⟨by omega, by omega⟩
      have := curAt_all g1 0 c1 g2 0 c2 xs ys (gi xs i) w h h' (by rw [HM.out]; omega) (by rw [HM'.out]; omega) (by rw [HM.out]; exact l1.2)
      unfold caU caD at this
      rw [hca, if_pos rfl, if_pos rfl, cA_at hpd.2 (by rw [HM.out]; exact hi), HM.out, HM'.out] at this
      exact this : Calls Try.prog 22 #[.slice (some ⟨g1, 0, none⟩) q c1, .slice (some ⟨g2, 0, none⟩) q c2, .int .i64 (gi xs i)] w fun e w' => e = .returned (.tuple #[.agg #[.int .i64 (up (qd (gi ys i) 1)), .int .i64 (dn (qd (gi ys i) 1))], .bool true]) ∧ Below w.heap.size w w'))
    have PY := Lib.hid (fun i (hi : i < q) => hpd.1.y i (by rw [HM.out]; exact hi))
    have CX := Lib.hid (fun k (hk : k < q) w (h : RowI w g1 0 xs) => h.cell k (by rw [HM.out]; exact hk))
    have CY := Lib.hid (fun k (hk : k < q) w (h : RowI w g2 0 ys) => h.cell k (by rw [HM'.out]; exact hk))
    obtain ⟨p, hpq⟩ : ∃ p, q = p + 1 := ⟨q - 1, by omega⟩
    have q1 : IntKind.i64.wrap ((q : Int) - 1) = (p : Int) := by rw [IntWalk.i64_in _ (by omega)]; omega
    have CP := Lib.hid (fun (h1 : 1 ≤ p) w (h : RowI w g1 0 xs) (h' : RowI w g2 0 ys) => (by
      have hx : p ≤ xs.length := by rw [HM.out]; omega
      have hy : p ≤ ys.length := by rw [HM'.out]; omega
      have := curveOf_all g1 0 c1 g2 0 c2 (xs.take p) (ys.take p) w (h.take p) (h'.take p) (by rw [take_len hx]; omega) (by rw [take_len hy]; omega) (by rw [take_len hx]; omega)
      rw [take_len hx, take_len hy, cr_take hpd.1 hpd.2 h1 hx, HM.out, ← hLc] at this
      rw [show (L.take p).length = p from by rw [List.length_take, HQL.out]; omega] at this
      exact this : Calls Try.prog 12 #[.slice (some ⟨g1, 0, none⟩) p c1, .slice (some ⟨g2, 0, none⟩) p c2] w fun e w' => ∃ v, e = .returned v ∧ Mut 31 w' w.heap.size v p (fc (L.take p)) ∧ Below w.heap.size w w'))
    have EP := Lib.hid (fun (h1 : 1 ≤ p) v B g c w (h : Mut 31 w B v p (fc (L.take p))) (h' : Blk w g 31 (fc L)) => (by
      have hk : (L.take p).length = p := by rw [List.length_take, HQL.out]; omega
      rcases h with ⟨_, h0, _⟩ | ⟨g3, c3, rfl, _, h3⟩
      · omega
      · exact equalFracs_row g3 c3 g c p (L.take p) w h3 (by have e := fc_split L p; rw [e] at h'; exact h'.pre) hk (by omega) : Calls Try.prog 33 #[v, .slice (some ⟨g, 0, none⟩) p c] w fun e w' => e = .returned (.bool true) ∧ Below w.heap.size w w'))
    have hpc1 : p + 1 ≤ c1 := by omega
    have hpc2 : p + 1 ≤ c2 := by omega
    have CY1 := Lib.hid (fun w (h : RowI w g1 0 xs) (h' : RowI w g2 0 ys) => (by
      have := curveOf_yes g1 0 c1 g2 0 c2 q xs ys w h h' hcr HM.out (by omega)
      rw [← hLc] at this
      exact this : Calls Try.prog 12 #[.slice (some ⟨g1, 0, none⟩) q c1, .slice (some ⟨g2, 0, none⟩) q c2] w fun e w' => ∃ g, e = .returned (.slice (some ⟨g, 0, none⟩) q q) ∧ w.heap.size ≤ g ∧ Blk w' g 31 (fc L) ∧ Below w.heap.size w w'))
    have hpq1 : p + 1 ≤ q := by omega
    have hpq2 : q ≤ p + 1 := by omega
    clear hcr hLc hpd l1 l2 h0 hpq
    go_upto_region 5 with (go_at_call 12; refine (CY1.out _ R1.out R2.out).mono ?_; rintro e w3 ⟨g3, rfl, hg3, k3, b3⟩; have z3 := b3.size)
    have M3 := Lib.hid (show Mut 31 w3 w2.heap.size (.slice (some ⟨g3, 0, none⟩) q q) q (fc L) from .inr ⟨g3, q, rfl, hg3, k3⟩)
    have K3 := Lib.hid k3
    have R1 := Lib.hid (R1.out.below b3)
    have R2 := Lib.hid (R2.out.below b3)
    have B3 := Lib.hid (HB2.out.trans (b3.mono z2))
    have t0 : ((q : Int) == 0) = false := by rw [beq_eq_false_iff_ne]; omega
    clear b3 k3 CI CY1
    go_upto_region 7 with (first
      | (go_at_call 10; refine (CS.out _ R1.out R2.out).mono ?_; rintro e w4 ⟨v4, rfl, m4, b4⟩; have z4 := b4.size)
      | (go_at_call 33; refine (EQ.out _ _ _ _ _ (M3.out.below b4) m4).mono ?_; rintro e w5 ⟨rfl, b5⟩; have z5 := b5.size))
    have K3 := Lib.hid ((K3.out.below b4).below b5)
    have R1 := Lib.hid ((R1.out.below b4).below b5)
    have R2 := Lib.hid ((R2.out.below b4).below b5)
    have B5 := Lib.hid (B3.out.trans ((b4.trans (b5.mono z4)).mono B3.out.size))
    obtain ⟨wo, hwo⟩ : ∃ wo : World, w5 = wo := ⟨_, rfl⟩
    rw [hwo] at K3 R1 R2 B5 ⊢
    clear m4 b4 b5 M3 B3 hwo CS EQ
    go_wp2_with fail
    go_loopw [6] (fun v6 wr => ∃ i : Nat, i ≤ q ∧ v6 = .int .i64 i ∧ Below wo.heap.size wo wr) (fun v6 _ => q - (intOf v6).toNat)
    case atStart => exact ⟨0, Nat.zero_le _, rfl, Below.refl _ _⟩
    case round =>
      obtain ⟨i, hi, rfl, hb⟩ := hrel
      have HB := Lib.hid hb
      have zb := hb.size
      clear hb
      by_cases hlt : i < q
      · have R1' := Lib.hid (R1.out.below HB.out)
        have R2' := Lib.hid (R2.out.below HB.out)
        have x1 := CX.out i hlt _ R1'.out
        rw [Nat.zero_add] at x1
        have ca := CA.out i hlt
        have py := PY.out i hlt
        obtain ⟨X, hX⟩ : ∃ X, gi xs i = X := ⟨_, rfl⟩
        obtain ⟨Y, hY⟩ : ∃ X, gi ys i = X := ⟨_, rfl⟩
        have CYI := Lib.hid (fun w (h : RowI w g2 0 ys) => (CY.out i hlt w h))
        rw [hX] at ca x1
        rw [hY] at ca py CYI
        obtain ⟨e, he⟩ : ∃ e, qd Y 1 = e := ⟨_, rfl⟩
        rw [he] at ca
        have CAI := Lib.hid ca
        have FO := Lib.hid (fun w => lfrac_as Y 1 e he w (by omega) (by omega) (by decide) (by decide) (by decide))
        have hlt' : (i : Int) < (q : Int) := by omega
        clear ca hX hY he
        go_upto_region 11 with (go_at_call 22; refine (CAI.out _ R1'.out R2'.out).mono ?_; rintro ex w6 ⟨rfl, b6⟩)
        obtain ⟨g7, hg7⟩ : ∃ g, w6.heap.size = g := ⟨_, rfl⟩
        rw [hg7]
        have z6 := b6.size
        refine wp_abstract (fun W => Blk W g7 31 [.int .i64 (up e), .int .i64 (dn e)] ∧ RowI W g2 0 ys ∧ Below wo.heap.size wo W) ⟨Blk.made' _ hg7.symm rfl, (R2'.out.below b6).below below_alloc, by have := HB.out; (repeat' (first | (with_reducible exact Below.refl _ _) | (with_reducible assumption) | (with_reducible refine Below.drewN ?_ _) | (with_reducible refine Below.alloc ?_ ?_ _) | (with_reducible refine Below.drew ?_) | (with_reducible refine Below.setCell ?_ ?_ _) | (with_reducible refine Below.trans ?_ (Below.mono (by assumption) ?_)) | go_size | (with_reducible refine Nat.le_trans ?_ (Below.size (by assumption)))))⟩ ?_
        rintro w7 ⟨k7, r7, b7⟩
        have c1 := k7.cell (j := 0) rfl
        have c2 := k7.cell (j := 1) rfl
        have c3' := CYI.out _ r7
        rw [Nat.zero_add] at c3'
        have B7 := Lib.hid b7
        have z7 := b7.size
        obtain ⟨ι, W, hW0, hWm, hWb⟩ := good_worlds w7
        have hWn : Nonempty ι := hW0.elim fun i _ => ⟨i⟩
        have a1 : ∀ i, (W i).cell? ⟨g7, 0, none⟩ = some (.int .i64 (up e)) := fun i => keepC (hWb i) c1
        have a2 : ∀ i, (W i).cell? ⟨g7, 1, none⟩ = some (.int .i64 (dn e)) := fun i => keepC (hWb i) c2
        have a3 : ∀ j, (W j).cell? ⟨g2, i, none⟩ = some (.int .i64 Y) := fun j => keepC (hWb j) c3'
        clear k7 r7 b7 b6 c1 c2 c3' x1 hg7 z6
        (refine region_quiet_tail (C := fun w' => ∃ i, w' = W i) 10 (by kernel_rfl) (by kernel_rfl) hW0 ?_; simp only [List.take_succ_cons, List.take_zero, List.drop_succ_cons, List.drop_zero]; (repeat (go_big_quiet_step ((go_at_call 28; exact (FO.out _).mono fun e w'' h => ⟨h.1, hWm _ _ h.2⟩)))); refine wpQuiet_nil ?_; rintro _ ⟨iw, rfl⟩)
        have hbi := Lib.hid (hWb iw)
        go_wp2_with fail
        go_roundw
        case rel => exact ⟨i + 1, by omega, by go_num, B7.out.trans (hbi.out.mono z7)⟩
        case measure => simp [intOf]; omega
      · obtain rfl : i = q := by omega
        have R1' := Lib.hid (R1.out.below HB.out)
        have R2' := Lib.hid (R2.out.below HB.out)
        have K3' := Lib.hid (K3.out.below HB.out)
        have B6 := Lib.hid (B5.out.trans (HB.out.mono B5.out.size))
        by_cases hp0 : p = 0
        · have t1 : ((p : Int) == 0) = true := by rw [hp0]; rfl
          clear hp0 t0
          go_wp2_with fail
          (refine region_tail 15 (by kernel_rfl) (by kernel_rfl) ?_; simp only [List.take_succ_cons, List.take_zero, List.drop_succ_cons, List.drop_zero]; (repeat (go_big_quiet_step (fail))); refine wpQuiet_nil ?_)
          go_wp2_with fail
          go_ret
          exact ⟨rfl, B6.out.drew⟩
        · have t1 : ((p : Int) == 0) = false := by rw [beq_eq_false_iff_ne]; omega
          have hp1 : 1 ≤ p := by omega
          have zr := B6.out.size
          have CPI := Lib.hid (CP.out hp1)
          have EPI := Lib.hid (EP.out hp1)
          have u1 : (p : Int) ≤ (c1 : Int) := by omega
          have u2 : (p : Int) ≤ (c2 : Int) := by omega
          have u3 : (p : Int) ≤ (i : Int) := by omega
          have u4 : (0 : Int) ≤ (p : Int) := by omega
          have u5 : (i : Int) ≤ (c1 : Int) := by omega
          have u6 : (i : Int) ≤ (c2 : Int) := by omega
          clear hp0 t0
          obtain ⟨wb, hwb⟩ : ∃ wb : World, wr = wb := ⟨_, rfl⟩
          rw [hwb] at R1' R2' K3' B6 zr ⊢
          clear hwb HB zb R1 R2 K3
          go_upto_region 14 with fail
          go_region_held3 (fun w' => Below wb.heap.size wb w') ((first | exact Below.refl _ _ | (repeat' (first | (with_reducible exact Below.refl _ _) | (with_reducible assumption) | (with_reducible refine Below.drewN ?_ _) | (with_reducible refine Below.alloc ?_ ?_ _) | (with_reducible refine Below.drew ?_) | (with_reducible refine Below.setCell ?_ ?_ _) | (with_reducible refine Below.trans ?_ (Below.mono (by assumption) ?_)) | go_size | (with_reducible refine Nat.le_trans ?_ (Below.size (by assumption)))))))
            ((first
              | (go_at_call 12; have hS : Below wb.heap.size wb _ := (by assumption); refine (CPI.out _ (R1'.out.below hS) (R2'.out.below hS)).mono ?_; rintro e w8 ⟨v8, rfl, m8, b8⟩; have z8 := b8.size; have K8 := (K3'.out.below hS).below b8; have b08 := hS.trans (b8.mono hS.size))
              | (go_at_call 33; refine (EPI.out _ _ _ _ _ m8 K8).mono ?_; rintro e w9 ⟨rfl, b9⟩; have b09 := b08.trans (b9.mono b08.size))))
          all_goals go_wp2_with fail
          all_goals go_ret
          all_goals exact ⟨rfl, B6.out.trans (b09.mono zr)⟩

set_option maxHeartbeats 400000 in
theorem FnCurveOf_long (ad : Option Addr) (n c : Nat) (w : World) (h : 1048576 < n) (h1 : n ≤ 9223372036854775807) :
    Calls Try.prog 7 #[.slice ad n c] w fun e w' => e = .returned (.bool true) ∧ Below w.heap.size w w' := by
  go_enter Try.func7, Try.ntmps7
  go_wp2_with fail
  go_ret
  exact ⟨rfl, Below.refl _ _⟩

end Go.Proofs.Ytoioafadenniiaa
