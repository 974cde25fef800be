/- spec.factors. -/
import Derived.Test.YtoioafadenniiaaCurP
import Derived.Test.YtoioafadenniiaaBoxF
import Derived.Test.YtoioafadenniiaaFirstT
import Derived.Test.YtoioafadenniiaaLineL
import Derived.Test.YtoioafadenniiaaSFrac
namespace Go.Proofs.Ytoioafadenniiaa
open Go.RowKit

theorem OwnF.grown {w w' : World} {base n gr : Nat} {v : Value} {fs : List Rat} (h : OwnF w base v n fs) (hb : w.grownBy w' (some gr)) (hne : v.ownBlock ≠ some gr) : OwnF w' base v n fs :=
  World.ownsRow.kept h (row := some gr) hb (.inr hne)
theorem OwnF.made (w : World) (base : Nat) (hb : base ≤ w.heap.size) : OwnF (w.alloc (.cells #[] 31)) base (.slice (some ⟨w.heap.size, 0, none⟩) 0 0) 0 [] := World.ownsRow_made w #[] 0 hb (by unfold maxLen; omega) rfl
theorem OwnF.ge {w : World} {base g c m n : Nat} {fs : List Rat} (h : OwnF w base (.slice (some ⟨g, 0, none⟩) m c) n fs) : base ≤ g ∧ g < w.heap.size := ⟨(Blk.of_own h).2, (Blk.of_own h).1.lt⟩
theorem one_block {g g' n c : Nat} (h : g ≠ g') : (Value.slice (some ⟨g, 0, none⟩) n c).ownBlock ≠ some g' := fun e => h (Option.some.inj e)
theorem nwL_succ (xs ys : List Int) (k m : Nat) : nwL xs ys k (m + 1) = nwL xs ys k m ++ [dd xs ys k m] := tab_succ _ _
theorem cvL_succ (xs ys : List Int) (m : Nat) : cvL xs ys (m + 1) = cvL xs ys m ++ [dd xs ys m 0] := tab_succ _ _
theorem gq_nw {xs ys : List Int} {k m i : Nat} (h : i < m) : gq (nwL xs ys k m) i = dd xs ys k i := gq_tab h
theorem nw_len (xs ys : List Int) (k m : Nat) : (nwL xs ys k m).length = m := tab_length _ _

set_option maxHeartbeats 8000000 in
set_option maxRecDepth 100000 in
theorem factors_any (b o c b' o' c' n : Nat) (xs ys : List Int) (w : World) (h : RowI w b o xs) (h' : RowI w b' o' ys) (hp : Pl xs ys 5) (hd : Df xs) (hn : xs.length = n) :
    Calls Try.prog 44 #[.slice (some ⟨b, o, none⟩) n c, .slice (some ⟨b', o', none⟩) n c'] w
      fun e w' => ∃ g cap, e = .returned (.slice (some ⟨g, 0, none⟩) n cap) ∧ w.heap.size ≤ g ∧ Blk w' g 31 (fc (cvL xs ys n)) ∧ Below w.heap.size w w' := by
  have hl := hp.ne
  have n5 := hp.nm
  have H := Lib.hid h
  have H' := Lib.hid h'
  have HN := Lib.hid hn
  have CX := Lib.hid (fun k (hk : k < n) w (h : RowI w b o xs) => h.cell k (by omega))
  have CY := Lib.hid (fun k (hk : k < n) w (h : RowI w b' o' ys) => h.cell k (by omega))
  have BX := Lib.hid (fun k (hk : k < n) => hp.x k (by omega))
  have BY := Lib.hid (fun k (hk : k < n) => hp.y k (by omega))
  have DS := Lib.hid (fun k i (hk : k ≤ 3) (hi : i + k < n) => dd_sm hp hd k i hk (by omega))
  have DV := Lib.hid (fun i j (hij : i < j) (hj : j < n) => qd_dv hp hd hij (show j < xs.length by omega))
  have DN := Lib.hid (fun i j (hij : i < j) (hj : j < n) => hd i j hij (show j < xs.length by omega))
  rw [hn] at n5
  clear h h' hp hd hn hl
  go_enter Try.func44, Try.ntmps44
  go_upto_region 3 with fail
  obtain ⟨g0, hg0⟩ : ∃ g, w.heap.size = g := ⟨_, rfl⟩
  refine wp_abstract (fun W => OwnF W w.heap.size (.slice (some ⟨g0, 0, none⟩) 0 0) 0 [] ∧ OwnF W w.heap.size (.slice (some ⟨g0 + 1, 0, none⟩) 0 0) 0 [] ∧ Below w.heap.size w W) ⟨?_, ?_, by (repeat' (first | (with_reducible exact Below.refl _ _) | (with_reducible assumption) | (with_reducible refine Below.drewN ?_ _) | (with_reducible refine Below.alloc ?_ ?_ _) | (with_reducible refine Below.drew ?_) | (with_reducible refine Below.setCell ?_ ?_ _) | (with_reducible refine Below.trans ?_ (Below.mono (by assumption) ?_)) | go_size | (with_reducible refine Nat.le_trans ?_ (Below.size (by assumption)))))⟩ ?_
  · subst hg0
    exact (OwnF.made w _ (Nat.le_refl _)).below below_alloc
  · subst hg0
    have := OwnF.made (w.alloc (.cells #[] 31)) w.heap.size (by simp)
    simpa using this
  rintro W0 ⟨o5, o6, hb0⟩
  have O5 := Lib.hid o5
  have O6 := Lib.hid o6
  have B0 := Lib.hid hb0
  have z0 := hb0.size
  rw [hg0]
  have HG0 := Lib.hid hg0
  clear o5 o6 hb0 hg0
  go_wp2_with fail
  go_loopw [6, 7] (fun v6 v7 wr => ∃ k g6 c6 : Nat, v7 = .int .i64 k ∧ k ≤ n ∧ v6 = .slice (some ⟨g6, 0, none⟩) k c6 ∧ g6 ≠ g0 ∧ OwnF wr w.heap.size (.slice (some ⟨g0, 0, none⟩) 0 0) 0 [] ∧ OwnF wr w.heap.size v6 k (nwL xs ys 0 k) ∧ Below w.heap.size w wr) (fun _ v7 _ => n - (intOf v7).toNat)
  case atStart => exact ⟨0, g0 + 1, 0, rfl, Nat.zero_le _, rfl, by omega, O5.out, O6.out, B0.out⟩
  case round =>
    clear O5 O6 B0 z0
    obtain ⟨k, g6, c6, rfl, hk, rfl, hne, o5, o6, hb⟩ := hrel
    have O5 := Lib.hid o5
    have O6 := Lib.hid o6
    have B := Lib.hid hb
    have hz := hb.size
    have l5 := o5.ge
    have l6 := o6.ge
    clear o5 o6 hb
    by_cases hlt : k < n
    · have c1 := CY.out k hlt _ (H'.out.below B.out)
      have b1 := BY.out k hlt
      have hs := nwL_succ xs ys 0 k
      have e0 : dd xs ys 0 k = qd (gi ys k) 1 := rfl
      obtain ⟨y, hy⟩ : ∃ y, gi ys k = y := ⟨_, rfl⟩
      rw [hy] at c1 b1 e0
      obtain ⟨q, hq⟩ : ∃ q, qd y 1 = q := ⟨_, rfl⟩
      rw [e0, hq] at hs
      have FY := Lib.hid (fun w => sfrac_as y 1 q hq w (by omega) (by omega) (by omega) (by omega) (by omega))
      have HS := Lib.hid hs
      clear hs e0 hy hq
      go_wp2_with (first
        | (go_at_call 47; refine (FY.out _).mono ?_; rintro e w1 ⟨rfl, b2⟩; have OW := Lib.hid (O6.out.below b2); have z2 := b2.size)
        | (at_builtin; refine wpList_app1 rfl (.tmp 19) (.tmp 25) 23 rfl w.heap.size 31 (.agg #[.int .i64 0, .int .i64 0]) 2 16 Try.underlying23 infoF rfl (by decide) (by decide) _ _ _ rfl (World.ownsRow.alloc OW.out _) ⟨_, 0, none⟩ 1 [.int .i64 (up q), .int .i64 (dn q)] rfl rfl (cell_two_new _ _ _ _) (by simp [Value.oneCell']) (by omega) (by simp; omega) ?_; intro g9 cap9 w4 o1 o2 o3))
      have P2 := show World.grownBy _ w4 (some g6) from o2
      have P3 := show some g6 = some g9 ∨ _ ≤ g9 from o3
      have hne' : g9 ≠ g0 := by
        rcases P3 with e | e
        · have := Option.some.inj e; omega
        · rw [World.size_alloc] at e; omega
      go_roundw
      case rel => exact ⟨k + 1, g9, cap9, by go_num, by omega, rfl, hne', ((O5.out.below b2).below below_alloc).grown P2 (one_block (fun e => hne e.symm)), by rw [HS.out]; exact OwnF.app o1, ((B.out.trans (b2.mono hz)).alloc (by omega) _).trans (Below.app (World.ownsRow.alloc OW.out _) (by rw [World.size_alloc]; omega) o2)⟩
      case measure => simp [intOf]; omega
    · obtain rfl : k = n := by omega
      go_wp2_with fail
      go_loopw [5, 6, 8] (fun v5 v6 v8 wr => ∃ j m g5 c5 g6 c6 : Nat, v8 = .int .i64 j ∧ j + m = k ∧ v5 = .slice (some ⟨g5, 0, none⟩) j c5 ∧ v6 = .slice (some ⟨g6, 0, none⟩) m c6 ∧ g6 ≠ g5 ∧ OwnF wr w.heap.size v5 j (cvL xs ys j) ∧ OwnF wr w.heap.size v6 m (nwL xs ys j m) ∧ Below w.heap.size w wr) (fun _ _ v8 _ => k - (intOf v8).toNat)
      case atStart => exact ⟨0, k, g0, 0, g6, c6, rfl, Nat.zero_add _, rfl, rfl, hne, O5.out, O6.out, B.out⟩
      case round =>
        clear O5 O6 B hz l5 l6 hne
        obtain ⟨j, m, g5, c5, g6, c6, rfl, hjm, rfl, rfl, hne, o5, o6, hb⟩ := hrel
        have O5 := Lib.hid o5
        have O6 := Lib.hid o6
        have B := Lib.hid hb
        have hz := hb.size
        have l5 := o5.ge
        have l6 := o6.ge
        clear o5 o6 hb
        by_cases hlj : j < k
        · have hm0 : 0 < m := by omega
          have hm0' : (0 : Int) < (m : Int) := by omega
          have x1 := O6.out.blk.f0 (k := 0) (by rw [nw_len]; omega)
          have x2 := O6.out.blk.f1 (k := 0) (by rw [nw_len]; omega)
          rw [gq_nw hm0] at x1 x2
          simp only [Nat.zero_mul, Nat.zero_add] at x1 x2
          have hs := cvL_succ xs ys j
          obtain ⟨q, hq⟩ : ∃ q, dd xs ys j 0 = q := ⟨_, rfl⟩
          rw [hq] at x1 x2 hs
          have HS := Lib.hid hs
          clear hs hq
          go_upto_region 11 with (at_builtin; refine wpList_app1 rfl (.tmp 33) (.tmp 37) 23 rfl w.heap.size 31 (.agg #[.int .i64 0, .int .i64 0]) 2 16 Try.underlying23 infoF rfl (by decide) (by decide) _ _ _ rfl (World.ownsRow.alloc O5.out _) ⟨_, 0, none⟩ 1 [.int .i64 (up q), .int .i64 (dn q)] rfl rfl (cell_two_new _ _ _ _) (by simp [Value.oneCell']) (by omega) (by simp; omega) ?_; intro g7 cap7 w4 o1 o2 o3)
          have P2 := show World.grownBy _ w4 (some g5) from o2
          have P3 := show some g5 = some g7 ∨ _ ≤ g7 from o3
          have hne' : g6 ≠ g7 := by
            rcases P3 with e | e
            · have := Option.some.inj e; omega
            · rw [World.size_alloc] at e; omega
          have B4 := Lib.hid ((B.out.alloc hz _).trans (Below.app (World.ownsRow.alloc O5.out _) (by rw [World.size_alloc]; omega) o2))
          have O6' := Lib.hid ((O6.out.below below_alloc).grown P2 (one_block hne))
          have O5' := Lib.hid (show OwnF w4 w.heap.size (.slice (some ⟨g7, 0, none⟩) (j + 1) cap7) (j + 1) (cvL xs ys (j + 1)) by rw [HS.out]; exact OwnF.app o1)
          have l7 := O5'.out.ge
          have l6' := O6'.out.ge
          have z4 := B4.out.size
          clear o1 o2 o3 P2 P3 O5 O6 B HS x1 x2 hne l5 l6 hz
          go_upto_region 12 with fail
          obtain ⟨g9, hg9⟩ : ∃ g, w4.heap.size = g := ⟨_, rfl⟩
          rw [hg9]
          refine wp_abstract (fun W => OwnF W w.heap.size (.slice (some ⟨g9, 0, none⟩) 0 0) 0 [] ∧ Below w4.heap.size w4 W) ⟨by subst hg9; exact OwnF.made w4 _ z4, by (repeat' (first | (with_reducible exact Below.refl _ _) | (with_reducible assumption) | (with_reducible refine Below.drewN ?_ _) | (with_reducible refine Below.alloc ?_ ?_ _) | (with_reducible refine Below.drew ?_) | (with_reducible refine Below.setCell ?_ ?_ _) | (with_reducible refine Below.trans ?_ (Below.mono (by assumption) ?_)) | go_size | (with_reducible refine Nat.le_trans ?_ (Below.size (by assumption)))))⟩ ?_
          rintro w5 ⟨o9, b5⟩
          have O9 := Lib.hid o9
          have O5 := Lib.hid (O5'.out.below b5)
          have O6 := Lib.hid (O6'.out.below b5)
          have B5 := Lib.hid (B4.out.trans (b5.mono z4))
          have z5 := b5.size
          have hn7 : g9 ≠ g7 := by omega
          have hn6 : g9 ≠ g6 := by omega
          clear o9 b5 O5' O6' B4 hg9 l7 l6'
          go_wp2_with fail
          go_loopw [9, 10] (fun v9 v10 wr => ∃ i g9 c9 : Nat, v10 = .int .i64 i ∧ i + 1 ≤ m ∧ v9 = .slice (some ⟨g9, 0, none⟩) i c9 ∧ g9 ≠ g7 ∧ g9 ≠ g6 ∧ OwnF wr w.heap.size v9 i (nwL xs ys (j + 1) i) ∧ OwnF wr w.heap.size (.slice (some ⟨g7, 0, none⟩) (j + 1) cap7) (j + 1) (cvL xs ys (j + 1)) ∧ OwnF wr w.heap.size (.slice (some ⟨g6, 0, none⟩) m c6) m (nwL xs ys j m) ∧ Below w.heap.size w wr) (fun _ v10 _ => m - (intOf v10).toNat)
          case atStart => exact ⟨0, g9, 0, rfl, by omega, rfl, hn7, hn6, O9.out, O5.out, O6.out, B5.out⟩
          case round =>
            clear O9 O5 O6 B5 z5 hn7 hn6 z4
            obtain ⟨i, g9, c9, rfl, hi, rfl, hn7, hn6, o9, o5, o6, hb⟩ := hrel
            have O9 := Lib.hid o9
            have O5 := Lib.hid o5
            have O6 := Lib.hid o6
            have B := Lib.hid hb
            have hz := hb.size
            have l9 := o9.ge
            have l5 := o5.ge
            have l6 := o6.ge
            clear o9 o5 o6 hb
            obtain ⟨i1, hi1⟩ : ∃ i1, i + 1 = i1 := ⟨_, rfl⟩
            have q0 : IntKind.i64.wrap ((i : Int) + 1) = (i1 : Int) := by rw [IntWalk.i64_in _ (by omega)]; omega
            by_cases hli : i1 < m
            · have ti : (i1 : Int) < (m : Int) := by omega
              obtain ⟨s1, hs1⟩ : ∃ s, i + j = s := ⟨_, rfl⟩
              obtain ⟨s2, hs2⟩ : ∃ s, s1 + 1 = s := ⟨_, rfl⟩
              have q1 : IntKind.i64.wrap ((i : Int) + (j : Int)) = (s1 : Int) := by rw [IntWalk.i64_in _ (by omega)]; omega
              have q2 : IntKind.i64.wrap ((s1 : Int) + 1) = (s2 : Int) := by rw [IntWalk.i64_in _ (by omega)]; omega
              have ls2 : s2 < k := by omega
              have ls2' : (s2 : Int) < (k : Int) := by omega
              have li : i < m := by omega
              have li' : (i : Int) < (m : Int) := by omega
              have lik : i < k := by omega
              have lik' : (i : Int) < (k : Int) := by omega
              have R1 := Lib.hid (H.out.below B.out)
              have c1 := CX.out s2 ls2 _ R1.out
              have c2 := CX.out i lik _ R1.out
              have bx1 := BX.out s2 ls2
              have bx2 := BX.out i lik
              have dn := DN.out i s2 (by omega) ls2
              have dv := DV.out i s2 (by omega) ls2
              have x1 := O6.out.blk.f0 (k := i1) (by rw [nw_len]; omega)
              have x2 := O6.out.blk.f1 (k := i1) (by rw [nw_len]; omega)
              have x3 := O6.out.blk.f0 (k := i) (by rw [nw_len]; omega)
              have x4 := O6.out.blk.f1 (k := i) (by rw [nw_len]; omega)
              rw [gq_nw (by omega)] at x1 x2 x3 x4
              have sp := DS.out j i1 (by omega) (by omega)
              have sq := DS.out j i (by omega) (by omega)
              have e1 : dd xs ys (j + 1) i = (dd xs ys j i1 - dd xs ys j i) * qd 1 (gi xs s2 - gi xs i) := by
                rw [← hi1, ← hs2, ← hs1]
                rfl
              have hs := nwL_succ xs ys (j + 1) i
              obtain ⟨p, hp⟩ : ∃ p, dd xs ys j i1 = p := ⟨_, rfl⟩
              obtain ⟨q, hq⟩ : ∃ p, dd xs ys j i = p := ⟨_, rfl⟩
              obtain ⟨r, hr⟩ : ∃ p, dd xs ys (j + 1) i = p := ⟨_, rfl⟩
              rw [hp] at x1 x2 sp e1
              rw [hq] at x3 x4 sq e1
              rw [hr] at e1 hs
              obtain ⟨u1, hu1⟩ : ∃ u, gi xs s2 = u := ⟨_, rfl⟩
              obtain ⟨u2, hu2⟩ : ∃ u, gi xs i = u := ⟨_, rfl⟩
              rw [hu1] at c1 bx1 e1 dn dv
              rw [hu2] at c2 bx2 e1 dn dv
              obtain ⟨du, hdu⟩ : ∃ u, u1 - u2 = u := ⟨_, rfl⟩
              have q3 : IntKind.i64.wrap (u1 - u2) = du := by rw [← hdu]; exact IntWalk.i64_in _ (by omega)
              rw [hdu] at e1 dv
              obtain ⟨dq, hdq⟩ : ∃ u, qd 1 du = u := ⟨_, rfl⟩
              rw [hdq] at e1 dv
              obtain ⟨t, ht⟩ : ∃ t, p - q = t := ⟨_, rfl⟩
              rw [ht] at e1
              have st : Sm (1327104 * 191102976 + 1327104 * 191102976) (191102976 * 191102976) t := ht ▸ sm_sub sp sq
              have m1 := sm_mul sp sq
              have m2 := sm_mul st dv
              have m3 := mul_bd (x := up t) (y := up dq) (A := 1327104 * 191102976 + 1327104 * 191102976) (B := 1) ⟨st.1, st.2.1⟩ ⟨dv.1, dv.2.1⟩
              have MW := Lib.hid (fun w => sminus_any p q t ht w (by omega) (by omega))
              have FW := Lib.hid (fun w => sfrac_as 1 du dq hdq w (by omega) (by omega) (by omega) (by omega) (by omega))
              have TW := Lib.hid (fun w => stimes_any t dq r e1.symm w (by omega) (by omega))
              have HS := Lib.hid hs
              have HI1 := Lib.hid hi1
              clear hp hq hr hu1 hu2 hdu hdq ht st m1 m2 m3 sp sq dv dn e1 hs bx1 bx2 hs1 hs2 hi1
              go_upto_region 15 with fail
              obtain ⟨ι, W, hW0, hWm, hWb⟩ := good_worlds wr
              have hWn : Nonempty ι := hW0.elim fun i _ => ⟨i⟩
              have y1 : ∀ i', (W i').cell? ⟨g6, i1 * 2, none⟩ = some (.int .i64 (up p)) := fun i' => keepC (hWb i') x1
              have y2 : ∀ i', (W i').cell? ⟨g6, i1 * 2 + 1, none⟩ = some (.int .i64 (dn p)) := fun i' => keepC (hWb i') x2
              have y3 : ∀ i', (W i').cell? ⟨g6, i * 2, none⟩ = some (.int .i64 (up q)) := fun i' => keepC (hWb i') x3
              have y4 : ∀ i', (W i').cell? ⟨g6, i * 2 + 1, none⟩ = some (.int .i64 (dn q)) := fun i' => keepC (hWb i') x4
              have y5 : ∀ i', (W i').cell? ⟨b, o + s2, none⟩ = some (.int .i64 u1) := fun i' => keepC (hWb i') c1
              have y6 : ∀ i', (W i').cell? ⟨b, o + i, none⟩ = some (.int .i64 u2) := fun i' => keepC (hWb i') c2
              clear x1 x2 x3 x4 c1 c2 R1
              (refine region_first_tail (C := fun w' => ∃ i, w' = W i) 25 (by kernel_rfl) (by kernel_rfl) rfl (fun _ _ _ h => h) (Or.inl ⟨by rfl, fun _ => by rfl⟩) hW0 ?_; simp only [List.take_succ_cons, List.take_zero, List.drop_succ_cons, List.drop_zero, Act.put, List.setIfInBounds_toArray, List.set_cons_zero, List.set_cons_succ]; (repeat (go_big_quiet_step (first
                | (go_at_call 77; exact (MW.out _).mono fun e w'' h => ⟨h.1, hWm _ _ h.2⟩)
                | (go_at_call 47; exact (FW.out _).mono fun e w'' h => ⟨h.1, hWm _ _ h.2⟩)
                | (go_at_call 67; exact (TW.out _).mono fun e w'' h => ⟨h.1, hWm _ _ h.2⟩)))); refine wpQuiet_nil ?_; rintro _ ⟨iw, rfl⟩)
              have hbi := hWb iw
              have zi := hbi.size
              have OW := Lib.hid (O9.out.below hbi)
              have O5 := Lib.hid (O5.out.below hbi)
              have O6 := Lib.hid (O6.out.below hbi)
              have BW := Lib.hid (B.out.trans (hbi.mono hz))
              clear hbi hWb hWm hW0 hWn y1 y2 y3 y4 y5 y6
              go_wp2_with (at_builtin; refine wpList_app1 rfl (.tmp 47) (.tmp 72) 23 rfl w.heap.size 31 (.agg #[.int .i64 0, .int .i64 0]) 2 16 Try.underlying23 infoF rfl (by decide) (by decide) _ _ _ rfl (World.ownsRow.alloc OW.out _) ⟨_, 0, none⟩ 1 [.int .i64 (up r), .int .i64 (dn r)] rfl rfl (cell_two_new _ _ _ _) (by simp [Value.oneCell']) (by omega) (by simp; omega) ?_; intro g3 cap3 w8 o1 o2 o3)
              have P2 := show World.grownBy _ w8 (some g9) from o2
              have P3 := show some g9 = some g3 ∨ _ ≤ g3 from o3
              have hn7' : g3 ≠ g7 := by
                rcases P3 with e | e
                · have := Option.some.inj e; omega
                · rw [World.size_alloc] at e; omega
              have hn6' : g3 ≠ g6 := by
                rcases P3 with e | e
                · have := Option.some.inj e; omega
                · rw [World.size_alloc] at e; omega
              have hi1 := HI1.out
              go_roundw
              case rel =>
                refine ⟨i1, g3, cap3, rfl, by omega, by rw [← hi1], hn7', hn6', ?_, (O5.out.below below_alloc).grown P2 (one_block (fun e => hn7 e.symm)), (O6.out.below below_alloc).grown P2 (one_block (fun e => hn6 e.symm)), (BW.out.alloc (by omega) _).trans (Below.app (World.ownsRow.alloc OW.out _) (by rw [World.size_alloc]; omega) o2)⟩
                rw [← hi1, HS.out]
                exact OwnF.app o1
              case measure => simp [intOf]; omega
            · have him : i1 = m := by omega
              have hj1 : j + 1 + i = k := by omega
              have ti : ¬ (i1 : Int) < (m : Int) := by omega
              clear hi1 him
              go_wp2_with fail
              go_roundw
              case rel => exact ⟨j + 1, i, g7, cap7, g9, c9, by go_num, hj1, rfl, rfl, hn7, O5.out, O9.out, B.out⟩
              case measure => simp [intOf]; omega
        · have e : j = k := by omega
          subst e
          have kb := O5.out.blk
          go_wp2_with fail
          go_ret
          exact ⟨g5, c5, rfl, l5.1, kb, B.out⟩

end Go.Proofs.Ytoioafadenniiaa
