/- The reference's generator of data: a row of the call's own, of at most 21 numbers. -/
import Derived.Test.YtpcnjkgoehepaaaGrow
import Derived.Test.YtpcnjkgoehepaaaAppS
import Derived.Deep.DeepCutAuto
namespace Go.Proofs.Ytpcnjkgoehepaaa
open Go.RowKit

set_option maxHeartbeats 4000000 in
theorem dataOf_any (g n c : Nat) (ad : Option Addr) (p nn : Int) (w : World) (h : Rdr w g ad n c p) (hp : p ≤ 1000) (hnn : nn ≤ 10) :
    Calls Try.prog 37 #[.pointer (some ⟨g, 0, none⟩), .int .i64 nn] w fun e w' => ∃ g1 c1 xs p',
      e = .returned (.slice (some ⟨g1, 0, none⟩) xs.length c1) ∧ OwnI w' w.heap.size (.slice (some ⟨g1, 0, none⟩) xs.length c1) xs.length xs ∧ xs.length ≤ 21 ∧ p' ≤ p + 20 ∧ Rdr w' g ad n c p' ∧ w.grownBy w' (some g) := by
  have hgl := h.blk.lt
  have hp0 := h.p0
  have H := Lib.hid h
  clear h
  have hb8 : ∀ k, k < 4 → 3 ≤ gi [3, 10, 40, 200] k ∧ gi [3, 10, 40, 200] k ≤ 200 := by decide
  obtain ⟨i0, ii0, ii1, ii2, ii3⟩ := info_parts infoI
  go_enter Try.func37, Try.ntmps37
  go_upto_region 2 with fail
  refine wp_abstract (fun W => OwnI W w.heap.size (.slice (some ⟨w.heap.size, 0, none⟩) 0 0) 0 [] ∧ Below w.heap.size w W) ⟨World.ownsRow_made w #[] 0 (Nat.le_refl _) (by unfold maxLen; omega) rfl, by (repeat' (first | (with_reducible exact Below.refl _ _) | (with_reducible assumption) | (with_reducible refine Below.drewN ?_ _) | (with_reducible refine Below.alloc ?_ ?_ _) | (with_reducible refine Below.drew ?_) | (with_reducible refine Below.setCell ?_ ?_ _) | (with_reducible refine Below.trans ?_ (Below.mono (by assumption) ?_)) | go_size | (with_reducible refine Nat.le_trans ?_ (Below.size (by assumption)))))⟩ ?_
  rintro W ⟨ht, hb⟩
  have HT := Lib.hid ht
  have HR := Lib.hid (H.out.below hb)
  have HB := Lib.hid (grown_of_below (some g) hb)
  have hz := hb.size
  have h8 := row_made W [3, 10, 40, 200]
  have hb9 : Below W.heap.size W (W.alloc (.cells (ic [3, 10, 40, 200]).toArray 3)) := below_alloc
  clear ht hb H
  go_wp2_with (go_at_call 22; refine (one_any g n c W.heap.size 0 4 ad p [3, 10, 40, 200] _ (HR.out.below hb9) h8 (by omega) (by omega) (by simp) (by simp)).mono ?_; rintro e w4 ⟨k0, hk0, rfl, hr4, hg4⟩)
  obtain ⟨mo, hmo⟩ : ∃ mo, gi [3, 10, 40, 200] k0 = mo := ⟨_, rfl⟩
  have hm8 := hb8 k0 hk0
  rw [hmo] at hm8 ⊢
  have HT4 := Lib.hid ((HT.out.below hb9).grown hg4 (by simp [Value.ownBlock]; omega))
  have HR4 := Lib.hid hr4
  have HG4 := Lib.hid (grown_trans (grown_trans HB.out (grown_of_below (some g) hb9)) hg4)
  clear hr4 hg4 hb9 h8 HT HR HB hb8 hk0 hmo
  have q1 : IntKind.i64.wrap (2 * mo) = 2 * mo := IntWalk.i64_in _ (by omega)
  have q2 : IntKind.i64.wrap (2 * mo + 1) = 2 * mo + 1 := IntWalk.i64_in _ (by omega)
  go_loopw [5] (fun v5 wr => ∃ (k g5 c5 : Nat) (xs : List Int) (p' : Int), v5 = .slice (some ⟨g5, 0, none⟩) k c5 ∧ k ≤ 10 ∧ p' ≤ p + 1 + k ∧ OwnI wr w.heap.size (.slice (some ⟨g5, 0, none⟩) k c5) k xs ∧ Rdr wr g ad n c p' ∧ w.grownBy wr (some g))
    (fun v5 _ => match v5 with | .slice _ m _ => nn.toNat - m | _ => 0)
  case atStart => exact ⟨0, w.heap.size, 0, [], p + 1, rfl, by omega, by omega, HT4.out, HR4.out, HG4.out⟩
  case round =>
    clear HT4 HR4 HG4
    obtain ⟨k, g5, c5, xs, p', rfl, hk, hp', ht, hr, hg⟩ := hrel
    have HT := Lib.hid ht
    have HR := Lib.hid hr
    have HG := Lib.hid hg
    have hz := hg.size
    have hgr : g < wr.heap.size := hr.blk.lt
    have hg5 := (Blk.of_own ht).2
    have hp0' := hr.p0
    clear ht hr hg
    by_cases hlt : (k : Int) < nn
    · go_wp2_with (first
        | (go_at_call 23; refine (pick_any g n c ad p' (2 * mo + 1) _ HR.out (by omega) (by omega) (by omega)).mono ?_; rintro e w1 ⟨v1, rfl, v10, v11, r1, h1⟩; have HT1 := Lib.hid (HT.out.grown h1 (by simp [Value.ownBlock]; omega)); have HR1 := Lib.hid r1; have HG1 := Lib.hid (grown_trans HG.out h1); have hz1 := h1.size)
        | (at_builtin; refine wpList_app1 rfl (.tmp 15) (.tmp 24) 23 rfl w.heap.size 3 (.int .i64 0) 1 8 Try.underlying23 infoI rfl (by decide) (by decide) _ _ _ rfl (World.ownsRow.alloc HT1.out _) ⟨_, 0, none⟩ 1 [.int .i64 _] rfl rfl (cell_one_new _ _ _) (by simp [Value.oneCell']) (by omega) (by simp; omega) ?_; intro g6 cap6 w6 o1 o2 o3))
      obtain ⟨r6, g6'⟩ := app_row HR1.out HG1.out hgl o2 hg5
      have R6 := Lib.hid r6
      have G6 := Lib.hid g6'
      clear r6 g6'
      go_roundw
      case rel => exact ⟨k + 1, g6, cap6, xs ++ [_], p' + 1, rfl, by omega, by omega, OwnI.app o1, R6.out, G6.out⟩
      case measure => simp; omega
    · have hlx := HT.out.len
      go_upto_region 6 with (go_at_call 23; refine (pick_any g n c ad p' 40 _ HR.out (by omega) (by omega) (by omega)).mono ?_; rintro e w1 ⟨v1, rfl, v10, v11, r1, h1⟩; have HT1 := Lib.hid (HT.out.grown h1 (by simp [Value.ownBlock]; omega)); have HR1 := Lib.hid r1; have HG1 := Lib.hid (grown_trans HG.out h1); have hz1 := h1.size; have hgr1 := r1.blk.lt; clear r1 h1)
      clear HT HR HG
      have hz2 : w.heap.size ≤ w1.heap.size := by omega
      by_cases hv0 : v1 = 0
      · have t1 : (v1 == 0) = true := by rw [hv0]; rfl
        have h8 := row_made w1 [201, -201]
        have hb9 : Below w1.heap.size w1 (w1.alloc (.cells (ic [201, -201]).toArray 3)) := below_alloc
        clear hv0
        go_wp2_with (first
          | (go_at_call 22; refine (one_any g n c w1.heap.size 0 2 ad (p' + 1) [201, -201] _ (HR1.out.below hb9) h8 (by omega) (by omega) (by simp) (by simp)).mono ?_; rintro e w2 ⟨k0, hk0, rfl, hr2, hg2⟩; have HT2 := Lib.hid ((HT1.out.below hb9).grown hg2 (by simp [Value.ownBlock]; omega)); have HR2 := Lib.hid hr2; have HG2 := Lib.hid (grown_trans (grown_trans HG1.out (grown_of_below (some g) hb9)) hg2); have hz3 := hg2.size; clear hr2 hg2)
          | (at_builtin; refine wpList_app1 rfl (.tmp 30) (.tmp 34) 23 rfl w.heap.size 3 (.int .i64 0) 1 8 Try.underlying23 infoI rfl (by decide) (by decide) _ _ _ rfl (World.ownsRow.alloc HT2.out _) ⟨_, 0, none⟩ 1 [.int .i64 _] rfl rfl (cell_one_new _ _ _) (by simp [Value.oneCell']) (by omega) (by simp at hz3 ⊢; omega) ?_; intro g6 cap6 w6 o1 o2 o3))
        obtain ⟨r6, g6'⟩ := app_row HR2.out HG2.out hgl o2 hg5
        go_ret
        have ho := OwnI.app o1
        have hlo := ho.len
        refine ⟨g6, cap6, xs ++ [gi [201, -201] k0], p' + 1 + 1, ?_, ?_, by simp; omega, by omega, r6, g6'⟩
        · rw [hlo]; rfl
        · rw [hlo]; exact ho
      · have t1 : (v1 == 0) = false := by simpa using hv0
        by_cases hv1 : v1 = 1
        · have t2 : (v1 == 1) = true := by rw [hv1]; rfl
          clear hv0 hv1
          go_wp2_with (at_builtin; refine wpList_append_lies _ rfl (.tmp 38) (.tmp 39) 23 rfl w.heap.size 3 i0 (.int .i64 0) 1 8 Try.underlying23 ii0 ii1 ii2 ii3 rfl (by decide) _ k (ic xs) rfl (World.ownsRow.alloc HT1.out _) ⟨_, 0, none⟩ 11 _ (ic [1, 2, 3, 4, 5, 6, 7, 8, 9, 10, 11]) rfl rfl (World.news_of_block (heap_alloc_new w1 _)) ic_one (by omega) (by unfold maxLen; omega) (by omega) (by simp; omega) _ rfl ?_; intro g6 cap6 w6 o1 o2 o3 o4)
          obtain ⟨r6, g6'⟩ := app_row HR1.out HG1.out hgl o2 hg5
          go_ret
          have ho : OwnI w6 w.heap.size (.slice (some ⟨g6, 0, none⟩) (k + 11) cap6) (k + 11) (xs ++ [1, 2, 3, 4, 5, 6, 7, 8, 9, 10, 11]) := by unfold OwnI; rw [ic_app]; exact o1
          have hlo := ho.len
          refine ⟨g6, cap6, xs ++ [1, 2, 3, 4, 5, 6, 7, 8, 9, 10, 11], p' + 1, ?_, ?_, by simp; omega, by omega, r6, g6'⟩
          · rw [hlo]; rfl
          · rw [hlo]; exact ho
        · have t2 : (v1 == 1) = false := by simpa using hv1
          clear hv0 hv1
          go_wp2_with fail
          go_ret
          exact ⟨g5, c5, xs, p' + 1, by rw [hlx]; rfl, by rw [hlx]; exact HT1.out, by omega, by omega, HR1.out, HG1.out⟩

end Go.Proofs.Ytpcnjkgoehepaaa
