/- The generators of numbers to be cut: a row of the call's own, of at most 17 numbers, and a number. -/
import Derived.Test.YtfbccnameppikaaGrow
import Derived.Test.YtfbccnameppikaaAppS
import Derived.Deep.DeepCutAuto
namespace Go.Proofs.Ytfbccnameppikaa
open Go.RowKit

set_option maxHeartbeats 4000000 in
theorem stepList_any (g n c : Nat) (ad : Option Addr) (w : World) (h : Rdr w g ad n c 0) :
    Calls Try.prog 26 #[.pointer (some ⟨g, 0, none⟩)] w fun e w' => ∃ g1 c1 xs p',
      e = .returned (.slice (some ⟨g1, 0, none⟩) xs.length c1) ∧ OwnI w' w.heap.size (.slice (some ⟨g1, 0, none⟩) xs.length c1) xs.length xs ∧ xs.length ≤ 17 ∧ p' ≤ 40 ∧ Rdr w' g ad n c p' ∧ w.grownBy w' (some g) := by
  have hgl := h.blk.lt
  have H := Lib.hid h
  clear h
  have hb8 : ∀ k, k < 9 → 0 ≤ gi [5, 6, 4, 7, 3, 8, 2, 1, 0] k ∧ gi [5, 6, 4, 7, 3, 8, 2, 1, 0] k ≤ 8 := by decide
  obtain ⟨i0, ii0, ii1, ii2, ii3⟩ := info_parts infoI
  go_enter Try.func26, Try.ntmps26
  go_upto_region 3 with fail
  refine wp_abstract (fun W => OwnI W w.heap.size (.slice (some ⟨w.heap.size, 0, none⟩) 0 0) 0 [] ∧ Below w.heap.size w W) ⟨World.ownsRow_made w #[] 0 (Nat.le_refl _) (by unfold maxLen; omega) rfl, by (repeat' (first | (with_reducible exact Below.refl _ _) | (with_reducible assumption) | (with_reducible refine Below.drewN ?_ _) | (with_reducible refine Below.alloc ?_ ?_ _) | (with_reducible refine Below.drew ?_) | (with_reducible refine Below.setCell ?_ ?_ _) | (with_reducible refine Below.trans ?_ (Below.mono (by assumption) ?_)) | go_size | (with_reducible refine Nat.le_trans ?_ (Below.size (by assumption)))))⟩ ?_
  rintro W ⟨ht, hb⟩
  have HT := Lib.hid ht
  have HR := Lib.hid (H.out.below hb)
  have HB := Lib.hid (grown_of_below (some g) hb)
  have hz := hb.size
  have h8 := row_made W [5, 6, 4, 7, 3, 8, 2, 1, 0]
  have hb9 : Below W.heap.size W (W.alloc (.cells (ic [5, 6, 4, 7, 3, 8, 2, 1, 0]).toArray 3)) := below_alloc
  clear ht hb H
  go_wp2_with (go_at_call 27; refine (one_any g n c W.heap.size 0 9 ad 0 [5, 6, 4, 7, 3, 8, 2, 1, 0] _ (HR.out.below hb9) h8 (by omega) (by omega) (by simp) (by simp)).mono ?_; rintro e w4 ⟨k0, hk0, rfl, hr4, hg4⟩)
  obtain ⟨mo, hmo⟩ : ∃ mo, gi [5, 6, 4, 7, 3, 8, 2, 1, 0] k0 = mo := ⟨_, rfl⟩
  have hm8 := hb8 k0 hk0
  rw [hmo] at hm8 ⊢
  have HT4 := Lib.hid ((HT.out.below hb9).grown hg4 (by simp [Value.ownBlock]; omega))
  have HR4 := Lib.hid hr4
  have HG4 := Lib.hid (grown_trans (grown_trans HB.out (grown_of_below (some g) hb9)) hg4)
  clear hr4 hg4 hb9 h8 HT HR HB hb8 hk0 hmo
  go_loopw [3, 4] (fun v3 v4 wr => ∃ (k g5 c5 : Nat) (xs : List Int) (p' at' : Int), v3 = .slice (some ⟨g5, 0, none⟩) k c5 ∧ v4 = .int .i64 at' ∧ k ≤ 8 ∧ p' ≤ 1 + 3 * (k : Int) ∧ -15 ≤ at' ∧ at' ≤ 15 ∧ OwnI wr w.heap.size (.slice (some ⟨g5, 0, none⟩) k c5) k xs ∧ Rdr wr g ad n c p' ∧ w.grownBy wr (some g))
    (fun v3 _ _ => match v3 with | .slice _ m _ => mo.toNat - m | _ => 0)
  case atStart => exact ⟨0, w.heap.size, 0, [], 1, 0, rfl, rfl, by omega, by omega, by omega, by omega, HT4.out, HR4.out, HG4.out⟩
  case round =>
    clear HT4 HR4 HG4
    obtain ⟨k, g5, c5, xs, p', at', rfl, rfl, hk, hp', ha1, ha2, ht, hr, hg⟩ := hrel
    have HT := Lib.hid ht
    have HR := Lib.hid hr
    have HG := Lib.hid hg
    have hz := hg.size
    have hgr : g < wr.heap.size := hr.blk.lt
    have hg5 := (Blk.of_own ht).2
    have hp0' := hr.p0
    clear ht hr hg
    by_cases hlt : (k : Int) < mo
    · go_upto_if 16 with (go_at_call 49; refine (pick_any g n c ad p' 3 _ HR.out (by omega) (by omega) (by omega)).mono ?_; rintro e w1 ⟨v1, rfl, v10, v11, r1, h1⟩; have HT1 := Lib.hid (HT.out.grown h1 (by simp [Value.ownBlock]; omega)); have HR1 := Lib.hid r1; have HG1 := Lib.hid (grown_trans HG.out h1); have hz1 := h1.size; clear r1 h1)
      go_cut [4] (fun s4 wx => ∃ (a2 p2 : Int), s4 = .int .i64 a2 ∧ -15 ≤ a2 ∧ a2 ≤ 15 ∧ p2 ≤ p' + 2 ∧ w.heap.size ≤ wx.heap.size ∧ OwnI wx w.heap.size (.slice (some ⟨g5, 0, none⟩) k c5) k xs ∧ Rdr wx g ad n c p2 ∧ w.grownBy wx (some g))
      case first =>
        by_cases hv : v1 = 0
        · have t1 : (v1 == 0) = true := by rw [hv]; rfl
          go_wp2_with (go_at_call 49; refine (pick_any g n c ad (p' + 1) 31 _ HR1.out (by omega) (by omega) (by omega)).mono ?_; rintro e w2 ⟨v2, rfl, v20, v21, r2, h2⟩)
          go_meet
          exact ⟨_, _, rfl, by omega, by omega, by omega, by have := h2.size; omega, HT1.out.grown h2 (by simp [Value.ownBlock]; omega), r2, grown_trans HG1.out h2⟩
        · have t1 : (v1 == 0) = false := by simpa using hv
          go_wp2
          go_meet
          exact ⟨_, _, rfl, by omega, by omega, by omega, by omega, HT1.out, HR1.out, HG1.out⟩
      case rest =>
        obtain ⟨a2, p2, rfl, ha3, ha4, hp2, hzc, ht, hr, hg⟩ := hcut
        have HT2 := Lib.hid ht
        have HR2 := Lib.hid hr
        have HG2 := Lib.hid hg
        have hgc : g < wc.heap.size := hr.blk.lt
        clear ht hr hg HT HR HG HT1 HR1 HG1
        go_wp2_with (first
          | (go_at_call 49; refine (pick_any g n c ad p2 4 _ HR2.out (by omega) (by omega) (by omega)).mono ?_; rintro e w3 ⟨v3, rfl, v30, v31, r3, h3⟩; have HT3 := Lib.hid (HT2.out.grown h3 (by simp [Value.ownBlock]; omega)); have HR3 := Lib.hid r3; have HG3 := Lib.hid (grown_trans HG2.out h3); have hz3 := h3.size)
          | (at_builtin; refine wpList_app1 rfl (.tmp 20) (.tmp 25) 23 rfl w.heap.size 3 (.int .i64 0) 1 8 Try.underlying23 infoI rfl (by decide) (by decide) _ _ _ rfl (World.ownsRow.alloc HT3.out _) ⟨_, 0, none⟩ 1 [.int .i64 _] rfl rfl (cell_one_new _ _ _) (by simp [Value.oneCell']) (by omega) (by simp; omega) ?_; intro g6 cap6 w6 o1 o2 o3))
        obtain ⟨r6, g6'⟩ := app_row HR3.out HG3.out hgl o2 hg5
        have R6 := Lib.hid r6
        have G6 := Lib.hid g6'
        clear r6 g6'
        go_roundw
        case rel => exact ⟨k + 1, g6, cap6, xs ++ [_], p2 + 1, a2, rfl, rfl, by omega, by omega, ha3, ha4, OwnI.app o1, R6.out, G6.out⟩
        case measure => simp; omega
    · have hlx := HT.out.len
      go_upto_region 9 with (go_at_call 49; refine (pick_any g n c ad p' 40 _ HR.out (by omega) (by omega) (by omega)).mono ?_; rintro e w1 ⟨v1, rfl, v10, v11, r1, h1⟩; have HT1 := Lib.hid (HT.out.grown h1 (by simp [Value.ownBlock]; omega)); have HR1 := Lib.hid r1; have HG1 := Lib.hid (grown_trans HG.out h1); have hz1 := h1.size; have hgr1 := r1.blk.lt; clear r1 h1)
      clear HT HR HG
      have hz2 : w.heap.size ≤ w1.heap.size := by omega
      by_cases hv0 : v1 = 0
      · have t1 : (v1 == 0) = true := by rw [hv0]; rfl
        clear hv0
        go_wp2_with (at_builtin; refine wpList_app1 rfl (.tmp 31) (.tmp 32) 23 rfl w.heap.size 3 (.int .i64 0) 1 8 Try.underlying23 infoI rfl (by decide) (by decide) _ _ _ rfl (World.ownsRow.alloc HT1.out _) ⟨_, 0, none⟩ 1 [.int .i64 _] rfl rfl (cell_one_new _ _ _) (by simp [Value.oneCell']) (by omega) (by simp; omega) ?_; intro g6 cap6 w6 o1 o2 o3)
        obtain ⟨r6, g6'⟩ := app_row HR1.out HG1.out hgl o2 hg5
        go_ret
        have ho := OwnI.app o1
        have hlo := ho.len
        refine ⟨g6, cap6, xs ++ [31], p' + 1, ?_, ?_, by simp; omega, by omega, r6, g6'⟩
        · rw [hlo]; rfl
        · rw [hlo]; exact ho
      · have t1 : (v1 == 0) = false := by simpa using hv0
        by_cases hv1 : v1 = 1
        · have t2 : (v1 == 1) = true := by rw [hv1]; rfl
          clear hv0 hv1
          go_wp2_with (at_builtin; refine wpList_append_lies _ rfl (.tmp 36) (.tmp 37) 23 rfl w.heap.size 3 i0 (.int .i64 0) 1 8 Try.underlying23 ii0 ii1 ii2 ii3 rfl (by decide) _ k (ic xs) rfl (World.ownsRow.alloc HT1.out _) ⟨_, 0, none⟩ 9 _ (ic [1, 1, 1, 1, 1, 1, 1, 1, 1]) rfl rfl (World.news_of_block (heap_alloc_new w1 _)) ic_one (by omega) (by unfold maxLen; omega) (by omega) (by simp; omega) _ rfl ?_; intro g6 cap6 w6 o1 o2 o3 o4)
          obtain ⟨r6, g6'⟩ := app_row HR1.out HG1.out hgl o2 hg5
          go_ret
          have ho : OwnI w6 w.heap.size (.slice (some ⟨g6, 0, none⟩) (k + 9) cap6) (k + 9) (xs ++ [1, 1, 1, 1, 1, 1, 1, 1, 1]) := by unfold OwnI; rw [ic_app]; exact o1
          have hlo := ho.len
          refine ⟨g6, cap6, xs ++ [1, 1, 1, 1, 1, 1, 1, 1, 1], p' + 1, ?_, ?_, by simp; omega, by omega, r6, g6'⟩
          · rw [hlo]; rfl
          · rw [hlo]; exact ho
        · have t2 : (v1 == 1) = false := by simpa using hv1
          clear hv0 hv1
          go_wp2_with fail
          go_ret
          exact ⟨g5, c5, xs, p' + 1, by rw [hlx]; rfl, by rw [hlx]; exact HT1.out, by omega, by omega, HR1.out, HG1.out⟩

/-- A row of the call's own, of at most 17 numbers, and a number. -/
def StepsD (w : World) (e : Ending) (w' : World) : Prop := ∃ g1 c1 xs z,
  e = .returned (.tuple #[.slice (some ⟨g1, 0, none⟩) xs.length c1, .int .i64 z]) ∧ w.heap.size ≤ g1 ∧ RowI w' g1 0 xs ∧ xs.length ≤ 17 ∧ xs.length ≤ c1 ∧ Below w.heap.size w w'

set_option maxHeartbeats 1000000 in
theorem drawPiecesTried_any (ad : Option Addr) (n c : Nat) (w : World) (h : CodeB w w.heap.size ad n) (hn : n ≤ 9223372036854775807) (hc : n ≤ c) :
    Calls Try.prog 7 #[.slice ad n c] w (StepsD w) := by
  have H := Lib.hid h
  clear h
  go_enter Try.func7, Try.ntmps7
  go_wp2_with (first
    | (go_at_call 25; refine (newReader_any ad n c _ H.out hn hc).mono ?_; rintro e w1 ⟨g, n', c', rfl, rfl, hr, hb1⟩; have hz1 := hb1.size; have hl1 := hr.blk.lt)
    | (go_at_call 26; refine (stepList_any _ n' c' ad _ hr).mono ?_; rintro e w2 ⟨g1, c1, xs, p', rfl, ho, hl, hp', hr', hg⟩; have hz2 := hg.size; have hg1 := (Blk.of_own ho).2; have h8 := row_made w2 [2, 3, 1, 4, 8, 0, 9]; have hb9 : Below w2.heap.size w2 (w2.alloc (.cells (ic [2, 3, 1, 4, 8, 0, 9]).toArray 3)) := below_alloc)
    | (go_at_call 27; refine (one_any w.heap.size n' c' w2.heap.size 0 7 ad p' [2, 3, 1, 4, 8, 0, 9] _ (hr'.below hb9) h8 (by omega) (by omega) (by simp) (by simp)).mono ?_; rintro e w3 ⟨k0, hk0, rfl, hr3, hg3⟩; have o3 := (ho.below hb9).grown hg3 (by simp [Value.ownBlock]; omega)))
  go_ret2
  exact ⟨g1, c1, xs, _, rfl, by omega, o3.row, hl, ho.cap, (hb1.grown hg hz1 (fun k hk => by have := Option.some.inj hk; omega)).trans ((below_alloc (W := w2)).mono (by omega) |>.trans (Below.grown (Below.refl _ _) hg3 (by simp; omega) (fun k hk => by have := Option.some.inj hk; omega)))⟩

set_option maxHeartbeats 1000000 in
theorem drawPiecesMiss_any (ad : Option Addr) (n c : Nat) (w : World) (h : CodeB w w.heap.size ad n) (hn : n ≤ 9223372036854775807) (hc : n ≤ c) :
    Calls Try.prog 12 #[.slice ad n c] w (StepsD w) := by
  have H := Lib.hid h
  clear h
  go_enter Try.func12, Try.ntmps12
  go_wp2_with (first
    | (go_at_call 25; refine (newReader_any ad n c _ H.out hn hc).mono ?_; rintro e w1 ⟨g, n', c', rfl, rfl, hr, hb1⟩; have hz1 := hb1.size; have hl1 := hr.blk.lt)
    | (go_at_call 26; refine (stepList_any _ n' c' ad _ hr).mono ?_; rintro e w2 ⟨g1, c1, xs, p', rfl, ho, hl, hp', hr', hg⟩; have hz2 := hg.size; have hg1 := (Blk.of_own ho).2; have h8 := row_made w2 [2, 3, 1, 4, 8, 0, 9]; have hb9 : Below w2.heap.size w2 (w2.alloc (.cells (ic [2, 3, 1, 4, 8, 0, 9]).toArray 3)) := below_alloc)
    | (go_at_call 27; refine (one_any w.heap.size n' c' w2.heap.size 0 7 ad p' [2, 3, 1, 4, 8, 0, 9] _ (hr'.below hb9) h8 (by omega) (by omega) (by simp) (by simp)).mono ?_; rintro e w3 ⟨k0, hk0, rfl, hr3, hg3⟩; have o3 := (ho.below hb9).grown hg3 (by simp [Value.ownBlock]; omega)))
  go_ret2
  exact ⟨g1, c1, xs, _, rfl, by omega, o3.row, hl, ho.cap, (hb1.grown hg hz1 (fun k hk => by have := Option.some.inj hk; omega)).trans ((below_alloc (W := w2)).mono (by omega) |>.trans (Below.grown (Below.refl _ _) hg3 (by simp; omega) (fun k hk => by have := Option.some.inj hk; omega)))⟩

set_option maxHeartbeats 1000000 in
theorem drawPricedPieces_any (ad : Option Addr) (n c : Nat) (w : World) (h : CodeB w w.heap.size ad n) (hn : n ≤ 9223372036854775807) (hc : n ≤ c) :
    Calls Try.prog 16 #[.slice ad n c] w (StepsD w) := by
  have H := Lib.hid h
  clear h
  go_enter Try.func16, Try.ntmps16
  go_wp2_with (first
    | (go_at_call 25; refine (newReader_any ad n c _ H.out hn hc).mono ?_; rintro e w1 ⟨g, n', c', rfl, rfl, hr, hb1⟩; have hz1 := hb1.size; have hl1 := hr.blk.lt)
    | (go_at_call 26; refine (stepList_any _ n' c' ad _ hr).mono ?_; rintro e w2 ⟨g1, c1, xs, p', rfl, ho, hl, hp', hr', hg⟩; have hz2 := hg.size; have hg1 := (Blk.of_own ho).2; have h8 := row_made w2 [5, 20, 1, 0, 100, 500, 501, -1]; have hb9 : Below w2.heap.size w2 (w2.alloc (.cells (ic [5, 20, 1, 0, 100, 500, 501, -1]).toArray 3)) := below_alloc)
    | (go_at_call 27; refine (one_any w.heap.size n' c' w2.heap.size 0 8 ad p' [5, 20, 1, 0, 100, 500, 501, -1] _ (hr'.below hb9) h8 (by omega) (by omega) (by simp) (by simp)).mono ?_; rintro e w3 ⟨k0, hk0, rfl, hr3, hg3⟩; have o3 := (ho.below hb9).grown hg3 (by simp [Value.ownBlock]; omega)))
  go_ret2
  exact ⟨g1, c1, xs, _, rfl, by omega, o3.row, hl, ho.cap, (hb1.grown hg hz1 (fun k hk => by have := Option.some.inj hk; omega)).trans ((below_alloc (W := w2)).mono (by omega) |>.trans (Below.grown (Below.refl _ _) hg3 (by simp; omega) (fun k hk => by have := Option.some.inj hk; omega)))⟩

end Go.Proofs.Ytfbccnameppikaa
