/- The generators of odds. -/
import Derived.Test.YtjkadlmlkcanpaaGrow
import Derived.Test.YtjkadlmlkcanpaaAppS
namespace Go.Proofs.Ytjkadlmlkcanpaa
open Go.RowKit

set_option maxHeartbeats 4000000 in
theorem someOdds_any (g n c : Nat) (ad : Option Addr) (p : Int) (w : World) (h : Rdr w g ad n c p) (hp : p ≤ 900) :
    Calls Try.prog 50 #[.pointer (some ⟨g, 0, none⟩)] w fun e w' => ∃ g1 c1 xs p',
      e = .returned (.slice (some ⟨g1, 0, none⟩) xs.length c1) ∧ OwnI w' w.heap.size (.slice (some ⟨g1, 0, none⟩) xs.length c1) xs.length xs ∧ xs.length ≤ 7 ∧ p' ≤ p + 30 ∧ Rdr w' g ad n c p' ∧ w.grownBy w' (some g) := by
  have hgl := h.blk.lt
  have H := Lib.hid h
  clear h
  have hb8 : ∀ k, k < 7 → 0 ≤ gi [3, 4, 5, 2, 6, 1, 0] k ∧ gi [3, 4, 5, 2, 6, 1, 0] k ≤ 6 := by decide
  go_enter Try.func50, Try.ntmps50
  go_upto_region 2 with fail
  refine wp_abstract (fun W => OwnI W w.heap.size (.slice (some ⟨w.heap.size, 0, none⟩) 0 0) 0 [] ∧ Below w.heap.size w W) ⟨World.ownsRow_made w #[] 0 (Nat.le_refl _) (by unfold maxLen; omega) rfl, by (repeat' (first | (with_reducible exact Below.refl _ _) | (with_reducible assumption) | (with_reducible refine Below.drewN ?_ _) | (with_reducible refine Below.alloc ?_ ?_ _) | (with_reducible refine Below.drew ?_) | (with_reducible refine Below.setCell ?_ ?_ _) | (with_reducible refine Below.trans ?_ (Below.mono (by assumption) ?_)) | go_size | (with_reducible refine Nat.le_trans ?_ (Below.size (by assumption)))))⟩ ?_
  rintro W ⟨ht, hb⟩
  have HT := Lib.hid ht
  have HR := Lib.hid (H.out.below hb)
  have HB := Lib.hid (grown_of_below (some g) hb)
  have hz := hb.size
  have h8 := row_made W [3, 4, 5, 2, 6, 1, 0]
  have hb9 : Below W.heap.size W (W.alloc (.cells (ic [3, 4, 5, 2, 6, 1, 0]).toArray 3)) := below_alloc
  clear ht hb H
  go_wp2_with (go_at_call 62; refine (one_any g n c W.heap.size 0 7 ad p [3, 4, 5, 2, 6, 1, 0] _ (HR.out.below hb9) h8 (by omega) (by omega) (by simp) (by simp)).mono ?_; rintro e w4 ⟨k0, hk0, rfl, hr4, hg4⟩)
  obtain ⟨nn, hnn⟩ : ∃ nn, gi [3, 4, 5, 2, 6, 1, 0] k0 = nn := ⟨_, rfl⟩
  have hn8 := hb8 k0 hk0
  rw [hnn] at hn8 ⊢
  have HT4 := Lib.hid ((HT.out.below hb9).grown hg4 (by simp [Value.ownBlock]; omega))
  have HR4 := Lib.hid hr4
  have HG4 := Lib.hid (grown_trans (grown_trans HB.out (grown_of_below (some g) hb9)) hg4)
  clear hr4 hg4 hb9 h8 HT HR HB hb8 hk0 hnn
  go_loopw [3] (fun v3 wr => ∃ (k g5 c5 : Nat) (xs : List Int) (p' : Int), v3 = .slice (some ⟨g5, 0, none⟩) k c5 ∧ k ≤ 6 ∧ p' ≤ p + 1 + 4 * k ∧ OwnI wr w.heap.size (.slice (some ⟨g5, 0, none⟩) k c5) k xs ∧ Rdr wr g ad n c p' ∧ w.grownBy wr (some g))
    (fun v3 _ => match v3 with | .slice _ m _ => nn.toNat - m | _ => 0)
  case atStart => exact ⟨0, w.heap.size, 0, [], p + 1, rfl, by omega, by omega, HT4.out, HR4.out, HG4.out⟩
  case round =>
    clear HT4 HR4 HG4
    obtain ⟨k, g5, c5, xs, p', rfl, hk, hp', ht, hr, hg⟩ := hrel
    have HT := Lib.hid ht
    have HR := Lib.hid hr
    have HG := Lib.hid hg
    have hz := hg.size
    have hgr : g < wr.heap.size := hr.blk.lt
    have hg5 := (Blk.of_own ht).2
    have hp0' := hr.p0
    clear ht hr hg
    by_cases hlt : (k : Int) < nn
    · go_wp2_with fail
      refine (pick_any g n c ad p' 60 _ HR.out (by omega) (by omega) (by omega)).mono ?_
      rintro e w1 ⟨v1, rfl, v10, v11, r1, h1⟩
      have HR1 := Lib.hid r1
      clear r1 HR
      go_wp2_with fail
      refine (pick_any g n c ad _ 20 _ HR1.out (by omega) (by omega) (by omega)).mono ?_
      rintro e w2 ⟨v2, rfl, v20, v21, r2, h2⟩
      have HR2 := Lib.hid r2
      clear r2 HR1
      go_wp2_with fail
      refine (pick_any g n c ad _ 250 _ HR2.out (by omega) (by omega) (by omega)).mono ?_
      rintro e w3 ⟨v3, rfl, v30, v31, r3, h3⟩
      have q3 : IntKind.i64.wrap (4 * v3) = 4 * v3 := IntWalk.i64_in _ (by omega)
      have h8 := row_made w3 [v1, v2, 4 * v3, 10, 0, 1000]
      have hb8 : Below w3.heap.size w3 (w3.alloc (.cells (ic [v1, v2, 4 * v3, 10, 0, 1000]).toArray 3)) := below_alloc
      have r4 := r3.below hb8
      have HR4 := Lib.hid r4
      have hl4 := r3.blk.lt
      have G4 := Lib.hid (grown_trans (grown_trans (grown_trans h1 h2) h3) (grown_of_below (some g) hb8))
      clear r3 r4 hb8 h1 h2 h3 HR2
      go_wp2_with fail
      refine (one_any g n c w3.heap.size 0 6 ad _ [v1, v2, 4 * v3, 10, 0, 1000] _ HR4.out h8 (by omega) (by omega) (by simp) (by simp)).mono ?_
      rintro e w5 ⟨k5, hk5, rfl, r6, h6⟩
      have HR6 := Lib.hid r6
      have G6 := Lib.hid (grown_trans G4.out h6)
      have HT6 := Lib.hid (HT.out.grown G6.out (by simp [Value.ownBlock]; omega))
      have HG6 := Lib.hid (grown_trans HG.out G6.out)
      have hz6 := HG6.out.size
      obtain ⟨x, hx⟩ : ∃ x, gi [v1, v2, 4 * v3, 10, 0, 1000] k5 = x := ⟨_, rfl⟩
      rw [hx]
      clear hx r6 h6 G4 h8 HR4 q3 hk5 HT HG G6
      go_wp2_with (at_builtin; refine wpList_app1 rfl (.tmp 13) (.tmp 24) 22 rfl w.heap.size 3 (.int .i64 0) 1 8 Try.underlying22 infoI rfl (by decide) (by decide) _ _ _ rfl (World.ownsRow.alloc HT6.out _) ⟨_, 0, none⟩ 1 [.int .i64 _] rfl rfl (cell_one_new _ _ _) (by simp [Value.oneCell']) (by omega) (by simp; omega) ?_; intro g6 cap6 w6 o1 o2 o3)
      obtain ⟨r6, g6'⟩ := app_row HR6.out HG6.out hgl o2 hg5
      have R6 := Lib.hid r6
      have G6 := Lib.hid g6'
      clear r6 g6'
      go_roundw
      case rel => exact ⟨k + 1, g6, cap6, xs ++ [x], p' + 1 + 1 + 1 + 1, rfl, by omega, by omega, OwnI.app o1, R6.out, G6.out⟩
      case measure => simp; omega
    · have hlx := HT.out.len
      go_wp2_with fail
      refine (pick_any g n c ad p' 30 _ HR.out (by omega) (by omega) (by omega)).mono ?_
      rintro e w1 ⟨v1, rfl, v10, v11, r1, h1⟩
      have HT1 := Lib.hid (HT.out.grown h1 (by simp [Value.ownBlock]; omega))
      have HR1 := Lib.hid r1
      have HG1 := Lib.hid (grown_trans HG.out h1)
      have hz1 := h1.size
      have hgr1 := r1.blk.lt
      clear r1 h1
      clear HT HR HG
      have hz2 : w.heap.size ≤ w1.heap.size := by omega
      by_cases hv0 : v1 = 0
      · have t1 : (v1 == 0) = true := by rw [hv0]; rfl
        have h8 := row_made w1 [1001, -1]
        have hb9 : Below w1.heap.size w1 (w1.alloc (.cells (ic [1001, -1]).toArray 3)) := below_alloc
        clear hv0
        go_wp2_with (first
          | (go_at_call 62; refine (one_any g n c w1.heap.size 0 2 ad (p' + 1) [1001, -1] _ (HR1.out.below hb9) h8 (by omega) (by omega) (by simp) (by simp)).mono ?_; rintro e w2 ⟨k0, hk0, rfl, hr2, hg2⟩; have HT2 := Lib.hid ((HT1.out.below hb9).grown hg2 (by simp [Value.ownBlock]; omega)); have HR2 := Lib.hid hr2; have HG2 := Lib.hid (grown_trans (grown_trans HG1.out (grown_of_below (some g) hb9)) hg2); have hz3 := hg2.size; clear hr2 hg2)
          | (at_builtin; refine wpList_app1 rfl (.tmp 29) (.tmp 33) 22 rfl w.heap.size 3 (.int .i64 0) 1 8 Try.underlying22 infoI rfl (by decide) (by decide) _ _ _ rfl (World.ownsRow.alloc HT2.out _) ⟨_, 0, none⟩ 1 [.int .i64 _] rfl rfl (cell_one_new _ _ _) (by simp [Value.oneCell']) (by omega) (by simp at hz3 ⊢; omega) ?_; intro g6 cap6 w6 o1 o2 o3))
        obtain ⟨r6, g6'⟩ := app_row HR2.out HG2.out hgl o2 hg5
        go_ret
        have ho := OwnI.app o1
        have hlo := ho.len
        refine ⟨g6, cap6, xs ++ [gi [1001, -1] k0], p' + 1 + 1, ?_, ?_, by simp; omega, by omega, r6, g6'⟩
        · rw [hlo]; rfl
        · rw [hlo]; exact ho
      · have t1 : (v1 == 0) = false := by simpa using hv0
        clear hv0
        go_wp2_with fail
        go_ret
        exact ⟨g5, c5, xs, p' + 1, by rw [hlx]; rfl, by rw [hlx]; exact HT1.out, by omega, by omega, HR1.out, HG1.out⟩

/-- A row of the call's own, of at most seven numbers. -/
def PickedO (w : World) (e : Ending) (w' : World) : Prop := ∃ g1 c1 xs,
  e = .returned (.slice (some ⟨g1, 0, none⟩) xs.length c1) ∧ RowI w' g1 0 xs ∧ xs.length ≤ 7 ∧ xs.length ≤ c1 ∧ Below w.heap.size w w'

theorem drawTimesAll_any (ad : Option Addr) (n c : Nat) (w : World) (h : CodeB w w.heap.size ad n) (hn : n ≤ 9223372036854775807) (hc : n ≤ c) :
    Calls Try.prog 23 #[.slice ad n c] w (PickedO w) := by
  have H := Lib.hid h
  clear h
  go_enter Try.func23, Try.ntmps23
  go_wp2_with (first
    | (go_at_call 51; refine (newReader_any ad n c _ H.out hn hc).mono ?_; rintro e w1 ⟨g, n', c', rfl, rfl, hr, hb1⟩; have hz1 := hb1.size; have hl1 := hr.blk.lt)
    | (go_at_call 50; refine (someOdds_any _ n' c' ad _ _ hr (by omega)).mono ?_; rintro e w2 ⟨g1, c1, xs, p', rfl, ho, hl, hp', hr', hg⟩))
  go_ret
  exact ⟨g1, c1, xs, rfl, ho.row, hl, ho.cap, hb1.grown hg hz1 (fun k hk => by have := Option.some.inj hk; omega)⟩

theorem drawFalseShare_any (ad : Option Addr) (n c : Nat) (w : World) (h : CodeB w w.heap.size ad n) (hn : n ≤ 9223372036854775807) (hc : n ≤ c) :
    Calls Try.prog 27 #[.slice ad n c] w (PickedO w) := by
  have H := Lib.hid h
  clear h
  go_enter Try.func27, Try.ntmps27
  go_wp2_with (first
    | (go_at_call 51; refine (newReader_any ad n c _ H.out hn hc).mono ?_; rintro e w1 ⟨g, n', c', rfl, rfl, hr, hb1⟩; have hz1 := hb1.size; have hl1 := hr.blk.lt)
    | (go_at_call 50; refine (someOdds_any _ n' c' ad _ _ hr (by omega)).mono ?_; rintro e w2 ⟨g1, c1, xs, p', rfl, ho, hl, hp', hr', hg⟩))
  go_ret
  exact ⟨g1, c1, xs, rfl, ho.row, hl, ho.cap, hb1.grown hg hz1 (fun k hk => by have := Option.some.inj hk; omega)⟩

end Go.Proofs.Ytjkadlmlkcanpaa
