/- The law laws.FnBlocksOf returns true for all codes, and changes no memory that was there. -/
import Derived.Test.YtcmbfkdhfdiamaaBlocksOf
import Derived.Test.YtcmbfkdhfdiamaaDraws
import Derived.Test.YtcmbfkdhfdiamaaTimes
namespace Go.Proofs.Ytcmbfkdhfdiamaa
open Go.RowKit

theorem one_le_lst {R : List Nat} (h : R ≠ []) : 1 ≤ R.length := List.length_pos_iff.2 h

set_option maxHeartbeats 30000000 in
set_option maxRecDepth 100000 in
theorem FnBlocksOf_main (ad : Option Addr) (n c : Nat) (w : World) (h : CodeB w w.heap.size ad n) (hn : n ≤ 1048576) (hc : n ≤ c) :
    Calls Try.prog 3 #[.slice ad n c] w fun e w' => e = .returned (.bool true) ∧ Below w.heap.size w w' := by
  have H := Lib.hid h
  clear h
  go_enter Try.func3, Try.ntmps3
  go_wp2_with fail
  refine (drawBlocksOf_any ad n c w H.out (by omega) hc).mono ?_
  rintro e w2 ⟨g1, c1, g2, c2, xs, ws, rfl, k1, k2, r1, r2, l1, l2, hb2⟩
  have R1 := Lib.hid r1
  have R2 := Lib.hid r2
  have z2 := hb2.size
  clear r1 r2
  go_wp2_with fail
  refine (blocksOf_any g1 0 c1 g2 0 c2 xs ws _ R1.out R2.out (by omega) (by omega)).mono ?_
  rintro e w3 (⟨rfl, hv, b3⟩ | ⟨g, rfl, hv, hg3, r3, b3⟩)
  · have z3 := b3.size
    have hbV : blkV xs ws = [] := by simp [blkV, hv]
    have R1 := Lib.hid (R1.out.below b3)
    have R2 := Lib.hid (R2.out.below b3)
    have B3 : Below w.heap.size w w3 := hb2.trans (b3.mono z2)
    clear b3 hb2
    go_wp2_with fail
    refine (sblocksOf_any g1 0 c1 g2 0 c2 xs ws _ R1.out R2.out (by omega) (by omega)).mono ?_
    rw [hbV]
    rintro e w4 ⟨v4, rfl, a4, b4⟩
    have z4 := b4.size
    have R1 := Lib.hid (R1.out.below b4)
    have R2 := Lib.hid (R2.out.below b4)
    have B4 : Below w.heap.size w w4 := B3.trans (b4.mono (by omega))
    clear b4 B3
    go_wp2_with fail
    refine (equalInts_any _ _ [] _ (.inl ⟨none, 0, rfl, rfl⟩) a4 (by simp)).mono ?_
    rintro e w5 ⟨rfl, b5⟩
    have z5 := b5.size
    have R1 := Lib.hid (R1.out.below b5)
    have R2 := Lib.hid (R2.out.below b5)
    have B5 : Below w.heap.size w w5 := B4.trans (b5.mono (by omega))
    clear b5 B4 a4
    go_wp2_with fail
    refine (sblocksOf_any g1 0 c1 g2 0 c2 xs ws _ R1.out R2.out (by omega) (by omega)).mono ?_
    rw [hbV]
    rintro e w6 ⟨v6, rfl, a6, b6⟩
    have B6 : Below w.heap.size w w6 := B5.trans (b6.mono (by omega))
    clear b6 B5
    go_wp2_with fail
    refine (equalInts_any _ _ [] _ (.inl ⟨none, 0, rfl, rfl⟩) a6 (by simp)).mono ?_
    rintro e w7 ⟨rfl, b7⟩
    have B7 : Below w.heap.size w w7 := B6.trans (b7.mono B6.size)
    clear b7 B6 a6
    go_wp2_with fail
    go_ret
    exact ⟨rfl, B7⟩
  · have z3 := b3.size
    have hvl := vl_of hv
    have hn8 := hvl.n8
    have hn0 := hvl.n0
    have hbV : blkV xs ws = lst (poolR xs ws xs.length) := by simp [blkV, hv]
    have hd := poolR_dec1 (xs := xs) (ws := ws)
    have h0 := poolR_first (xs := xs) (ws := ws) hn0
    have hpl := poolR_length xs ws xs.length
    have hI := poolR_inc xs ws xs.length
    have hne : poolR xs ws xs.length ≠ [] := by
      obtain ⟨j, hj⟩ : ∃ j, xs.length = j + 1 := ⟨xs.length - 1, by omega⟩
      rw [hj]
      exact poolR_ne xs ws j
    have hasc : Asc xs xs.length → (poolR xs ws xs.length).length = xs.length := fun h => by rw [poolR_asc hvl h _ (Nat.le_refl _), cnt_length]
    obtain ⟨R, hR⟩ : ∃ R, poolR xs ws xs.length = R := ⟨_, rfl⟩
    rw [hR] at hd h0 hpl hI hne hasc hbV r3 ⊢
    have hm1 := one_le_lst hne
    have hAR := bd_asc hd (by omega)
    have hup := fun i hi => bd_up hd (by omega) i hi
    have hbo := fun i hi => bd_bound hd i hi
    obtain ⟨m, hm⟩ : ∃ m, R.length = m := ⟨_, rfl⟩
    rw [hm] at hpl hasc hm1 ⊢
    have HM := Lib.hid hm
    have HAS := Lib.hid hasc
    have HI := Lib.hid hI
    have H0 := Lib.hid h0
    have HAR := Lib.hid hAR
    have HUP := Lib.hid hup
    have HBO := Lib.hid hbo
    have R3 := Lib.hid r3
    have R1 := Lib.hid (R1.out.below b3)
    have R2 := Lib.hid (R2.out.below b3)
    have B3 : Below w.heap.size w w3 := hb2.trans (b3.mono z2)
    clear b3 hb2 hm hI h0 hAR hup hbo hasc r3 hd hne hR hvl
    go_wp2_with fail
    refine (sblocksOf_any g1 0 c1 g2 0 c2 xs ws _ R1.out R2.out (by omega) (by omega)).mono ?_
    rw [hbV]
    rintro e w4 ⟨v4, rfl, a4, b4⟩
    have z4 := b4.size
    have R1 := Lib.hid (R1.out.below b4)
    have R2 := Lib.hid (R2.out.below b4)
    have R3 := Lib.hid (R3.out.below b4)
    have B4 : Below w.heap.size w w4 := B3.trans (b4.mono (by omega))
    clear b4 B3 hbV
    go_wp2_with fail
    refine (equalInts_any _ _ (lst R) _ (.inr ⟨g, 0, m, by rw [lst_length, HM.out], R3.out⟩) a4 (by rw [lst_length, HM.out]; omega)).mono ?_
    rintro e w5 ⟨rfl, b5⟩
    have z5 := b5.size
    have R1 := Lib.hid (R1.out.below b5)
    have R2 := Lib.hid (R2.out.below b5)
    have R3 := Lib.hid (R3.out.below b5)
    have B5 : Below w.heap.size w w5 := B4.trans (b5.mono (by omega))
    have t1 : ((m : Int) == 0) = false := by simp; omega
    obtain ⟨i0, hi, hz0, hz1, hz2⟩ := info_parts infoI
    have own0 : (w5.alloc (.cells #[] 3)).ownsRow w5.heap.size 3 1 (.slice (some ⟨w5.heap.size, 0, none⟩) 0 0) 0 [] := World.ownsRow_made w5 #[] 0 (Nat.le_refl _) (by unfold maxLen; omega) rfl
    have r5 := R3.out.below (below_alloc (W := w5) (o := .cells #[] 3))
    clear b5 B4 a4
    go_wp2_with (first
      | (at_builtin; refine wpList_append_own _ rfl (.tmp 39) (.tmp 40) 23 rfl w5.heap.size 3 i0 (.int .i64 0) 1 8 Try.underlying23 hi hz0 hz1 hz2 rfl (by decide) _ 0 [] rfl own0 ⟨g, 0, none⟩ m m (ic (lst R)) rfl (by rw [ic_length, lst_length, HM.out, Nat.mul_one]) r5.cells (by simp [ic, Value.oneCell']) (by unfold maxLen; omega) (by omega) (by simp) ?_; intro v6 w6 o1 o2 o3; have z6 := o2.size; simp only [World.size_alloc] at z6)
      | (at_builtin; refine wpList_app1 rfl (.tmp 41) (.tmp 44) 23 rfl w5.heap.size 3 (.int .i64 0) 1 8 Try.underlying23 infoI rfl (by decide) (by decide) _ _ _ rfl (World.ownsRow.alloc o1 _) ⟨w6.heap.size, 0, none⟩ 1 [.int .i64 xs.length] rfl rfl (cell_one_new _ _ _) (by simp [Value.oneCell']) (by omega) (by simp; omega) ?_; intro g7 cap7 w7 p1 p2 p3))
    have b6 : Below w5.heap.size w5 w6 := (below_alloc (W := w5) (o := .cells #[] 3)).trans ((Below.app own0 (by simp) o2))
    have b7 : Below w5.heap.size w5 w7 := (b6.alloc (by omega) _).trans (Below.app (World.ownsRow.alloc o1 _) (by simp; omega) p2)
    rw [List.nil_append, ic_append, ← lst_cons] at p1
    obtain ⟨hk7, hg7⟩ := Blk.of_own p1
    have K7 := Lib.hid hk7
    have z7 := b7.size
    have R1 := Lib.hid (R1.out.below b7)
    have R2 := Lib.hid (R2.out.below b7)
    have R3 := Lib.hid (R3.out.below b7)
    have B7 := Lib.hid (B5.trans (b7.mono (by omega)))
    clear o1 o2 o3 p1 p2 p3 b6 b7 hk7 own0 r5 hi hz0 hz1 hz2 B5 t1
    go_loopw [7] (fun v7 wr => ∃ k : Nat, v7 = .int .i64 ((k + 1 : Nat) : Int) ∧ k + 1 ≤ m ∧ Below w7.heap.size w7 wr) (fun v7 _ => m + 1 - (intOf v7).toNat)
    case atStart => exact ⟨0, rfl, by omega, Below.refl _ _⟩
    case round =>
      obtain ⟨k, rfl, hk, hb⟩ := hrel
      have HB := Lib.hid hb
      have hz := hb.size
      have hk7 := K7.out.below hb
      by_cases hlt : k + 1 < m
      · have hm1 : k + 1 < R.length := by rw [HM.out]; exact hlt
        have hll : (lst (xs.length :: R)).length = m + 1 := by rw [lst_length, List.length_cons, HM.out]
        have x0 := hk7.cell (get_ic (k := k) (by omega))
        have x1 := hk7.cell (get_ic (k := k + 1) (by omega))
        have x2 := hk7.cell (get_ic (k := k + 2) (by omega))
        rw [gi_bd (by rw [List.length_cons]; omega)] at x0 x1 x2
        have u1 := HUP.out k (by omega)
        have u2 := HUP.out (k + 1) hm1
        have u3 := HBO.out (k + 2) (by omega)
        have hI := HI.out.at k hm1
        obtain ⟨b0, hb0⟩ : ∃ b0, bd (xs.length :: R) k = b0 := ⟨_, rfl⟩
        obtain ⟨b1, hb1⟩ : ∃ b1, bd (xs.length :: R) (k + 1) = b1 := ⟨_, rfl⟩
        obtain ⟨b2, hb2⟩ : ∃ b2, bd (xs.length :: R) (k + 2) = b2 := ⟨_, rfl⟩
        rw [hb0] at x0 u1 hI
        rw [hb1] at x1 u1 u2 hI
        rw [show k + 1 + 1 = k + 2 from rfl, hb2] at u2
        rw [hb2] at x2 u3 hI
        obtain ⟨p, hp⟩ : ∃ p, mq xs ws ((b0 : Nat) : Int).toNat ((b1 : Int) - 1).toNat = p := ⟨_, rfl⟩
        obtain ⟨q, hq⟩ : ∃ q, mq xs ws ((b1 : Nat) : Int).toNat ((b2 : Int) - 1).toNat = q := ⟨_, rfl⟩
        rw [show mq xs ws b0 (b1 - 1) = p from by rw [← hp, show ((b1 : Int) - 1).toNat = b1 - 1 from by omega]; rfl, show mq xs ws b1 (b2 - 1) = q from by rw [← hq, show ((b2 : Int) - 1).toNat = b2 - 1 from by omega]; rfl] at hI
        have sp : Sm 1200 40 p := by rw [← hp]; exact mq_sm (vl_of hv) (by omega) (by omega)
        have sq : Sm 1200 40 q := by rw [← hq]; exact mq_sm (vl_of hv) (by omega) (by omega)
        have spq := sm_mul sp sq
        have LW := Lib.hid (fun w => lessOf_any p q w (by omega))
        have HP := Lib.hid hp
        have HQ := Lib.hid hq
        have hcmp : decide (p < q) = true := by simpa using hI
        have q1 : IntKind.i64.wrap (((k + 1 : Nat) : Int) - 1) = (k : Int) := by rw [IntWalk.i64_in _ (by omega)]; omega
        have q2 : IntKind.i64.wrap ((b1 : Int) - 1) = (b1 : Int) - 1 := IntWalk.i64_in _ (by omega)
        have q3 : IntKind.i64.wrap ((b2 : Int) - 1) = (b2 : Int) - 1 := IntWalk.i64_in _ (by omega)
        have q4 : IntKind.i64.wrap (((k + 1 : Nat) : Int) + 1) = ((k + 2 : Nat) : Int) := by rw [IntWalk.i64_in _ (by omega)]; omega
        have q5 : (0 : Int) ≤ (k : Int) := by omega
        have q6 : (k : Int) < ((m + 1 : Nat) : Int) := by omega
        have q7 : ((k + 1 : Nat) : Int) < ((m + 1 : Nat) : Int) := by omega
        have q8 : ((k + 2 : Nat) : Int) < ((m + 1 : Nat) : Int) := by omega
        have q9 : (0 : Int) ≤ ((k + 1 : Nat) : Int) := by omega
        have q10 : (0 : Int) ≤ ((k + 2 : Nat) : Int) := by omega
        have q11 : (k : Int) < (m : Int) + 1 := by omega
        have q12 : (k : Int) + 1 < (m : Int) + 1 := by omega
        have q13 : (k : Int) + 2 < (m : Int) + 1 := by omega
        have q14 : IntKind.i64.wrap ((k : Int) + 1 - 1) = (k : Int) := by rw [IntWalk.i64_in _ (by omega)]; omega
        have q15 : IntKind.i64.wrap ((k : Int) + 1 + 1) = (k : Int) + 2 := by rw [IntWalk.i64_in _ (by omega)]; omega
        have q16 : ((k : Int) + 1).toNat = k + 1 := by omega
        have q17 : ((k : Int) + 2).toNat = k + 2 := by omega
        have q18 : (0 : Int) ≤ (k : Int) + 1 := by omega
        have q19 : (0 : Int) ≤ (k : Int) + 2 := by omega
        have q20 : IntKind.i64.wrap (k : Int) = (k : Int) := IntWalk.i64_in _ (by omega)
        have hb := Lib.hid hb
        clear hp hq hI sp sq spq hk7 HB hb0 hb1 hb2 hll hm1
        go_upto_region 11 with fail
        go_cut [8] (fun s8 wx => ∃ g8, s8 = .pointer (some ⟨g8, 0, none⟩) ∧ wr.heap.size ≤ g8 ∧ Blk wx g8 29 (fc [p]) ∧ Below wr.heap.size wr wx)
        case first =>
          go_region_held3 (fun w' => w'.cell? ⟨g7, k, none⟩ = some (.int .i64 b0) ∧ w'.cell? ⟨g7, k + 1, none⟩ = some (.int .i64 b1) ∧ Below w7.heap.size w7 w')
            ((exact keepS2 (W := wr) (by (repeat' (first | (with_reducible exact Below.refl _ _) | (with_reducible assumption) | (with_reducible refine Below.drewN ?_ _) | (with_reducible refine Below.alloc ?_ ?_ _) | (with_reducible refine Below.drew ?_) | (with_reducible refine Below.setCell ?_ ?_ _) | (with_reducible refine Below.trans ?_ (Below.mono (by assumption) ?_)) | go_size | (with_reducible refine Nat.le_trans ?_ (Below.size (by assumption)))))) ⟨x0, x1, hb.out⟩))
            ((first
              | (go_at_call 19; have hS : _ ∧ _ ∧ Below w7.heap.size w7 _ := (by assumption); refine (meanOf_as g1 0 c1 g2 0 c2 xs ws _ _ p _ (R1.out.below hS.2.2) (R2.out.below hS.2.2) hv (by omega) (by omega) (by omega) HP.out).mono ?_; rintro e w1 ⟨rfl, hb1⟩; obtain ⟨hc1, hf1⟩ := bcell hb1; have hz1 := hb1.size)))
          all_goals go_wp2_with fail
          all_goals go_meet
          all_goals refine ⟨_, rfl, by first | omega | (simp only [World.size_drew] at hz1; omega), ?_, by (repeat' (first | (with_reducible exact Below.refl _ _) | (with_reducible assumption) | (with_reducible refine Below.drewN ?_ _) | (with_reducible refine Below.alloc ?_ ?_ _) | (with_reducible refine Below.drew ?_) | (with_reducible refine Below.setCell ?_ ?_ _) | (with_reducible refine Below.trans ?_ (Below.mono (by assumption) ?_)) | go_size | (with_reducible refine Nat.le_trans ?_ (Below.size (by assumption)))))⟩
          all_goals change Blk _ _ _ [.int .i64 (up p), .int .i64 (dn p)]
          all_goals (repeat' (first | ((with_reducible refine Blk.made' _ ?_ ?_) <;> first | rfl | (simp; done)) | (with_reducible refine Blk.two (x := .int .i64 0) (y := .int .i64 0) ?_ _ _) | (with_reducible refine Blk.drews ?_) | (with_reducible refine Blk.allocs ?_ _) | ((with_reducible refine Blk.others ?_ ?_); rotate_left; (focus (first | (simp; done) | (simp; omega)))) | (with_reducible refine Blk.below ?_ (by with_reducible assumption))))
        case rest =>
          obtain ⟨g8, rfl, hg8, hk8, hb8⟩ := hcut
          have hz8 := hb8.size
          have x1' := keepC hb8 x1
          have x2' := keepC hb8 x2
          have hb9 := Lib.hid (hb.out.trans (hb8.mono hz))
          have K8 := Lib.hid hk8
          clear x0 x1 x2 hb hk8 hb8
          obtain ⟨wd, rfl⟩ : ∃ wd : World, wd = wc := ⟨_, rfl⟩
          go_upto_region 12 with fail
          go_cut [10] (fun s10 wx => ∃ g10, s10 = .pointer (some ⟨g10, 0, none⟩) ∧ wd.heap.size ≤ g10 ∧ Blk wx g10 29 (fc [q]) ∧ Below wd.heap.size wd wx)
          case first =>
            go_region_held3 (fun w' => w'.cell? ⟨g7, k + 1, none⟩ = some (.int .i64 b1) ∧ w'.cell? ⟨g7, k + 2, none⟩ = some (.int .i64 b2) ∧ Below w7.heap.size w7 w')
              ((exact keepS2 (W := wd) (by (repeat' (first | (with_reducible exact Below.refl _ _) | (with_reducible assumption) | (with_reducible refine Below.drewN ?_ _) | (with_reducible refine Below.alloc ?_ ?_ _) | (with_reducible refine Below.drew ?_) | (with_reducible refine Below.setCell ?_ ?_ _) | (with_reducible refine Below.trans ?_ (Below.mono (by assumption) ?_)) | go_size | (with_reducible refine Nat.le_trans ?_ (Below.size (by assumption)))))) ⟨x1', x2', hb9.out⟩))
              ((first
                | (go_at_call 19; have hS : _ ∧ _ ∧ Below w7.heap.size w7 _ := (by assumption); refine (meanOf_as g1 0 c1 g2 0 c2 xs ws _ _ q _ (R1.out.below hS.2.2) (R2.out.below hS.2.2) hv (by omega) (by omega) (by omega) HQ.out).mono ?_; rintro e w1 ⟨rfl, hb1⟩; obtain ⟨hc1, hf1⟩ := bcell hb1; have hz1 := hb1.size)))
            all_goals go_wp2_with fail
            all_goals go_meet
            all_goals refine ⟨_, rfl, by first | omega | (simp only [World.size_drew] at hz1; omega), ?_, by (repeat' (first | (with_reducible exact Below.refl _ _) | (with_reducible assumption) | (with_reducible refine Below.drewN ?_ _) | (with_reducible refine Below.alloc ?_ ?_ _) | (with_reducible refine Below.drew ?_) | (with_reducible refine Below.setCell ?_ ?_ _) | (with_reducible refine Below.trans ?_ (Below.mono (by assumption) ?_)) | go_size | (with_reducible refine Nat.le_trans ?_ (Below.size (by assumption)))))⟩
            all_goals change Blk _ _ _ [.int .i64 (up q), .int .i64 (dn q)]
            all_goals (repeat' (first | ((with_reducible refine Blk.made' _ ?_ ?_) <;> first | rfl | (simp; done)) | (with_reducible refine Blk.two (x := .int .i64 0) (y := .int .i64 0) ?_ _ _) | (with_reducible refine Blk.drews ?_) | (with_reducible refine Blk.allocs ?_ _) | ((with_reducible refine Blk.others ?_ ?_); rotate_left; (focus (first | (simp; done) | (simp; omega)))) | (with_reducible refine Blk.below ?_ (by with_reducible assumption))))
          case rest =>
            obtain ⟨g10, rfl, hg10, hk10, hb10⟩ := hcut
            have hz10 := hb10.size
            have k8 := K8.out.below hb10
            have p1 := k8.f0 (k := 0) (by simp)
            have p2 := k8.f1 (k := 0) (by simp)
            have p3 := hk10.f0 (k := 0) (by simp)
            have p4 := hk10.f1 (k := 0) (by simp)
            simp only [Nat.zero_mul, Nat.zero_add, show gq [p] 0 = p from rfl, show gq [q] 0 = q from rfl] at p1 p2 p3 p4
            have hb11 := Lib.hid (hb9.out.trans (hb10.mono (by omega)))
            have hz11 := hb11.out.size
            clear k8 hk10 hb10 hb9 x1' x2'
            go_wp2_with (go_at_call 20; refine (LW.out _).mono ?_; rw [hcmp]; rintro e w12 ⟨rfl, hb12⟩)
            go_roundw
            case rel => exact ⟨k + 1, by go_num, by omega, hb11.out.trans (hb12.mono hz11)⟩
            case measure => simp [intOf]; omega
      · have r3 := R3.out.below hb
        have hl3 : (lst R).length = m := by rw [lst_length, HM.out]
        have e0 : gi (lst R) 0 = 0 := by rw [gi_bd (by rw [HM.out]; omega), ← bd_cons_lt (a := xs.length) (by rw [HM.out]; omega)]; rw [H0.out]; rfl
        have x0 := r3.cell 0 (by omega)
        rw [e0] at x0
        have A1 := fun w h => ascends_any g 0 m (lst R) w h (by omega)
        rw [hl3] at A1
        have hAR : Asc (lst R) m := by have := HAR.out; rw [HM.out] at this; exact this
        have A1 := Lib.hid A1
        have hAR := Lib.hid hAR
        have R3 := Lib.hid r3
        clear r3 e0 hk7 hl3
        go_wp2_with (go_at_call_of 21 m; refine (A1.out _ R3.out).mono ?_; rintro e w12 ⟨v, rfl, hv12, hb12⟩; obtain rfl : v = true := hv12.2 hAR.out; have hb13 := hb.trans (hb12.mono hz))
        have hb13' := hb13
        refine (ascends_any g1 0 c1 xs _ (R1.out.below hb13) (by omega)).mono ?_
        rintro e w14 ⟨v, rfl, hv14, hb14⟩
        have BB : Below w.heap.size w w14 := (B7.out.trans (hb13.mono B7.out.size)).trans (hb14.mono (by have := hb13.size; have := B7.out.size; omega))
        have hAsc := hv14.1
        clear hv12 hv14 hb14 hb13' hb13 hb12 hb hAR A1 x0 R1 R2 R3 HUP HBO HI H0 HAR K7 B7
        cases v with
        | true =>
          have hmx := HAS.out (hAsc rfl)
          clear hAsc HAS HM
          subst hmx
          go_wp2_with fail
          go_ret
          exact ⟨rfl, BB⟩
        | false =>
          clear hAsc HAS HM
          go_wp2_with fail
          go_ret
          exact ⟨rfl, BB⟩

theorem FnBlocksOf_long (ad : Option Addr) (n c : Nat) (w : World) (h : 1048576 < n) (h1 : n ≤ 9223372036854775807) :
    Calls Try.prog 3 #[.slice ad n c] w fun e w' => e = .returned (.bool true) ∧ Below w.heap.size w w' := by
  go_enter Try.func3, Try.ntmps3
  go_wp2_with fail
  go_ret
  exact ⟨rfl, Below.refl _ _⟩

end Go.Proofs.Ytcmbfkdhfdiamaa
