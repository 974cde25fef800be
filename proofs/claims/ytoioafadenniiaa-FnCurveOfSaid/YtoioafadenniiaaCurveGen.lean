/- The generators of a curve's points. -/
import Derived.Test.YtoioafadenniiaaCloudGen
import Derived.Deep.RegionHeld3
import Derived.Deep.AppendLies
namespace Go.Proofs.Ytoioafadenniiaa
open Go.RowKit

theorem ic_set2 (xs : List Int) (i : Nat) (v : Int) : (ic xs).set i (.int .i64 v) = ic (xs.set i v) := by
  unfold ic; rw [List.map_set]

set_option maxHeartbeats 8000000 in
theorem someCurve_any (g n c : Nat) (ad : Option Addr) (w : World) (h : Rdr w g ad n c 0) :
    Calls Try.prog 62 #[.pointer (some ⟨g, 0, none⟩)] w fun e w' => ∃ g1 c1 g2 c2 xs ws,
      e = .returned (.tuple #[.slice (some ⟨g1, 0, none⟩) xs.length c1, .slice (some ⟨g2, 0, none⟩) ws.length c2]) ∧ w.heap.size ≤ g1 ∧ w.heap.size ≤ g2 ∧ RowI w' g1 0 xs ∧ RowI w' g2 0 ws ∧
        (xs.length ≤ 9 ∧ xs.length ≤ c1) ∧ (ws.length ≤ 9 ∧ ws.length ≤ c2) ∧ ∃ p', p' ≤ 60 ∧ Rdr w' g ad n c p' ∧ w.grownBy w' (some g) := by
  have hgl := h.blk.lt
  have H := Lib.hid h
  clear h
  have hb7 : ∀ k, k < 7 → 0 ≤ gi [3, 4, 2, 5, 1, 0, 6] k ∧ gi [3, 4, 2, 5, 1, 0, 6] k ≤ 6 := by decide
  go_enter Try.func62, Try.ntmps62
  go_upto_region 3 with fail
  refine wp_abstract (fun W => Two W w.heap.size w.heap.size 0 (w.heap.size + 1) 0 0 [] [] ∧ Below w.heap.size w W) ⟨⟨?_, ?_, by omega⟩, by (repeat' (first | (with_reducible exact Below.refl _ _) | (with_reducible assumption) | (with_reducible refine Below.drewN ?_ _) | (with_reducible refine Below.alloc ?_ ?_ _) | (with_reducible refine Below.drew ?_) | (with_reducible refine Below.setCell ?_ ?_ _) | (with_reducible refine Below.trans ?_ (Below.mono (by assumption) ?_)) | go_size | (with_reducible refine Nat.le_trans ?_ (Below.size (by assumption)))))⟩ ?_
  · exact OwnI.below (World.ownsRow_made w #[] 0 (Nat.le_refl _) (by unfold maxLen; omega) rfl) below_alloc
  · have h2 : OwnI ((w.alloc (.cells #[] 3)).alloc (.cells #[] 3)) w.heap.size (.slice (some ⟨(w.alloc (.cells #[] 3)).heap.size, 0, none⟩) 0 0) 0 [] := World.ownsRow_made (w.alloc (.cells #[] 3)) #[] 0 (show w.heap.size ≤ _ by simp) (by unfold maxLen; omega) rfl
    simpa using h2
  rintro W ⟨ht, hb⟩
  have HT := Lib.hid ht
  have HR := Lib.hid (H.out.below hb)
  have HB := Lib.hid (grown_of_below (some g) hb)
  have hz := hb.size
  clear ht hb
  go_upto_region 4 with (go_at_call 63; refine (pick_any g n c ad 0 6 _ HR.out (by omega) (by omega) (by omega)).mono ?_; rintro e w3 ⟨v3, rfl, v30, v31, r3, h3⟩)
  have HT3 := Lib.hid (HT.out.grown h3 hgl)
  have HR3 := Lib.hid r3
  have HG3 := Lib.hid (grown_trans HB.out h3)
  have hz3 := h3.size
  have h8 := row_made w3 [3, 4, 2, 5, 1, 0, 6]
  have hb9 : Below w3.heap.size w3 (w3.alloc (.cells (ic [3, 4, 2, 5, 1, 0, 6]).toArray 3)) := below_alloc
  have hgl3 := r3.blk.lt
  clear r3 h3 HT HR HB
  go_wp2_with (go_at_call 64; refine (one_any g n c w3.heap.size 0 7 ad (0 + 1) [3, 4, 2, 5, 1, 0, 6] _ (HR3.out.below hb9) h8 (by omega) (by omega) (by simp) (by simp)).mono ?_; rintro e w4 ⟨k0, hk0, rfl, hr4, hg4⟩)
  obtain ⟨nn, hnn⟩ : ∃ nn, gi [3, 4, 2, 5, 1, 0, 6] k0 = nn := ⟨_, rfl⟩
  have hn8 := hb7 k0 hk0
  rw [hnn] at hn8 ⊢
  have HT4 := Lib.hid ((HT3.out.below hb9).grown hg4 hgl)
  have HR4 := Lib.hid hr4
  have HG4 := Lib.hid (grown_trans (grown_trans HG3.out (grown_of_below (some g) hb9)) hg4)
  clear hr4 hg4 hb9 h8 HT3 HR3 HG3 hb7 hk0 hnn
  go_loopw [4, 5, 6] (fun v4 v5 v6 wr => ∃ (k g4 c4 g5 c5 : Nat) (xs ws : List Int) (p x : Int), v4 = .slice (some ⟨g4, 0, none⟩) k c4 ∧ v5 = .slice (some ⟨g5, 0, none⟩) k c5 ∧ v6 = .int .i64 x ∧ (-6 ≤ x ∧ x ≤ 4 * (k : Int)) ∧ (k : Int) ≤ nn ∧ p ≤ 2 + 5 * (k : Int) ∧ Two wr w.heap.size g4 c4 g5 c5 k xs ws ∧ Rdr wr g ad n c p ∧ w.grownBy wr (some g))
    (fun v4 _ _ _ => match v4 with | .slice _ m _ => nn.toNat - m | _ => 0)
  case atStart => exact ⟨0, w.heap.size, 0, w.heap.size + 1, 0, [], [], _, _, rfl, rfl, rfl, by go_num, by omega, by omega, HT4.out, HR4.out, HG4.out⟩
  case round =>
    clear HT4 HR4 HG4
    obtain ⟨k, g4, c4, g5, c5, xs, ws, p, x, rfl, rfl, rfl, hx, hk, hp, ht, hr, hg⟩ := hrel
    have HT := Lib.hid ht
    have HR := Lib.hid hr
    have HG := Lib.hid hg
    have hz := hg.size
    have hgr : g < wr.heap.size := hr.blk.lt
    have hg4 := (Blk.of_own ht.a).2
    have hg5 := (Blk.of_own ht.b).2
    clear ht hr hg
    by_cases hlt : (k : Int) < nn
    · go_upto_region 7 with (go_at_call 63; refine (pick_any g n c ad p ((k : Int) + 1) _ HR.out (by omega) (by omega) (by omega)).mono ?_; rintro e w1 ⟨v1, rfl, v10, v11, r1, h1⟩)
      obtain ⟨kk, rfl⟩ : ∃ kk : Nat, v1 = kk := ⟨v1.toNat, by omega⟩
      have R1 := Lib.hid r1
      have HT1 := Lib.hid (HT.out.grown h1 hgl)
      have HG1 := Lib.hid (grown_trans HG.out h1)
      have hzo := HG1.out.size
      have hgo := r1.blk.lt
      obtain ⟨wo, hwo⟩ : ∃ wo : World, w1 = wo := ⟨_, rfl⟩
      rw [hwo] at R1 HT1 HG1 hzo hgo ⊢
      have hcap := OwnI.cap HT1.out.a
      have hxl := OwnI.len HT1.out.a
      have HR4 := Lib.hid (Blk.of_own HT1.out.a).1.row
      have lg5 := (Blk.of_own HT1.out.b).1.lt
      have INS := Lib.hid (fun (wx : World) (L : List Int) (g6 cap6 : Nat) (hb : Below wo.heap.size wo wx) (ho : wx.ownsRow wo.heap.size 3 1 (.slice (some ⟨g6, 0, none⟩) (k + 1) cap6) (k + 1) (ic L)) (h6 : wo.heap.size ≤ g6) =>
        (⟨own_mono ho hzo, HT1.out.b.below hb, by omega, R1.out.below hb, grown_trans HG1.out (grown_of_below _ hb)⟩ : OwnI wx w.heap.size (.slice (some ⟨g6, 0, none⟩) (k + 1) cap6) (k + 1) L ∧ OwnI wx w.heap.size (.slice (some ⟨g5, 0, none⟩) k c5) k ws ∧ g6 ≠ g5 ∧ Rdr wx g ad n c (p + 1) ∧ w.grownBy wx (some g)))
      clear r1 h1 hwo HT HR HG
      go_cut [4] (fun s4 wx => ∃ (g6 cap6 : Nat) (L : List Int), s4 = .slice (some ⟨g6, 0, none⟩) (k + 1) cap6 ∧ OwnI wx w.heap.size (.slice (some ⟨g6, 0, none⟩) (k + 1) cap6) (k + 1) L ∧ OwnI wx w.heap.size (.slice (some ⟨g5, 0, none⟩) k c5) k ws ∧ g6 ≠ g5 ∧ Rdr wx g ad n c (p + 1) ∧ w.grownBy wx (some g))
      case first =>
        have HBO := Lib.hid (show ∀ (W : World) (p : Addr) (v : Value), Below wo.heap.size wo W → wo.cell? p = some v → W.cell? p = some v from fun _ _ _ hb h => (hb.cell (World.block_lt_of_cell? wo _ h)).trans h)
        have hrowk := HR4.out.news 0 kk (by omega)
        have hrowd := HR4.out.news kk (k - kk) (by omega)
        rw [Nat.zero_add] at hrowk hrowd
        have HRK := Lib.hid hrowk
        have HRD := Lib.hid hrowd
        have hlk : (ic ((xs.drop 0).take kk)).length = kk := by rw [ic_length, List.length_take, List.length_drop]; omega
        have hld : (ic ((xs.drop kk).take (k - kk))).length = k - kk := by rw [ic_length, List.length_take, List.length_drop]; omega
        clear hrowk hrowd HR4 HT1 HG1 R1 hxl
        by_cases hkl : kk < k
        · have q2 : (kk : Int) ≤ (c4 : Int) := by omega
          have q3 : (kk : Int) ≤ (k : Int) := by omega
          have q4 : ¬ c4 = kk := by omega
          have q5 : (0 : Int) ≤ (kk : Int) := by omega
          have q6 : (k : Int) ≤ (c4 : Int) := by omega
          go_region_held3 (fun w' => True ∧ Below wo.heap.size wo w')
            ((exact ⟨trivial, by (repeat' (first | (with_reducible exact Below.refl _ _) | (with_reducible assumption) | (with_reducible refine Below.drewN ?_ _) | (with_reducible refine Below.alloc ?_ ?_ _) | (with_reducible refine Below.drew ?_) | (with_reducible refine Below.setCell ?_ ?_ _) | (with_reducible refine Below.trans ?_ (Below.mono (by assumption) ?_)) | go_size | (with_reducible refine Nat.le_trans ?_ (Below.size (by assumption)))))⟩))
            ((first
              | ((refine step_appS (by rfl) (.tmp 26) (.tmp 29) 22 (by rfl) wo.heap.size 3 (.int .i64 0) 8 Try.underlying22 infoI rfl (by decide) (.slice (some ⟨_, 0, none⟩) 0 0) 0 [] (by rfl) ⟨g4, 0, none⟩ kk _ (ic ((xs.drop 0).take kk)) (by rfl) ?_ hlk ?_ ic_one (by omega) ?_ ?_); (focus (first | exact own0 (by simp) (by simp) | exact World.ownsRow.alloc (own0 (by simp) (by simp)) _)); (focus (intro j u hu; exact HBO.out _ _ _ (by (repeat' (first | (with_reducible exact Below.refl _ _) | (with_reducible assumption) | (with_reducible refine Below.drewN ?_ _) | (with_reducible refine Below.alloc ?_ ?_ _) | (with_reducible refine Below.drew ?_) | (with_reducible refine Below.setCell ?_ ?_ _) | (with_reducible refine Below.trans ?_ (Below.mono (by assumption) ?_)) | go_size | (with_reducible refine Nat.le_trans ?_ (Below.size (by assumption)))))) (HRK.out j u hu))); (focus (first | (simp; done) | omega | (simp; omega))); intro v1 w1 o1 g1 n1; have b1 := Below.app (B := wo.heap.size) (by first | exact (own0 (t := 3) (by simp) (by simp)) | exact World.ownsRow.alloc (own0 (t := 3) (by simp) (by simp)) _) (by first | (simp; done) | (simp; omega)) g1; have z1 : wo.heap.size ≤ w1.heap.size := Nat.le_trans (by first | (simp; done) | (simp; omega)) b1.size)
              | ((refine step_appS (by rfl) (.tmp 30) (.tmp 32) 22 (by rfl) wo.heap.size 3 (.int .i64 0) 8 Try.underlying22 infoI rfl (by decide) _ (0 + kk) ([] ++ ic ((xs.drop 0).take kk)) (by rfl) ⟨_, 0, none⟩ 1 _ [.int .i64 x] (by rfl) ?_ rfl ?_ (one_one _) (by omega) ?_ ?_); (focus (first | exact o1 | exact World.ownsRow.alloc o1 _)); (focus (first | exact cell_one_new _ _ _ | (refine news_one ((g1.cell_far _ ?_ ?_).trans ?_) <;> first | (exact cell_xy (by simp)) | (simp [Value.ownBlock]; done) | (simp [go_sem]; done)))); (focus (first | (simp; done) | omega | (simp; omega))); intro v2 w2 o2 g2 n2; have b2 := Below.app (B := wo.heap.size) (by first | exact o1 | exact World.ownsRow.alloc o1 _) (by first | omega | (simp; omega)) g2; have z2 : wo.heap.size ≤ w2.heap.size := Nat.le_trans (by first | omega | (simp; omega)) b2.size)
              | ((refine step_appS (by rfl) (.tmp 33) (.tmp 36) 22 (by rfl) wo.heap.size 3 (.int .i64 0) 8 Try.underlying22 infoI rfl (by decide) _ (0 + kk + 1) ([] ++ ic ((xs.drop 0).take kk) ++ [.int .i64 x]) (by rfl) ⟨g4, kk, none⟩ (k - kk) _ (ic ((xs.drop kk).take (k - kk))) (by rfl) ?_ hld ?_ ic_one (by omega) ?_ ?_); (focus exact o2); (focus (intro j u hu; exact HBO.out _ _ _ (by (repeat' (first | (with_reducible exact Below.refl _ _) | (with_reducible assumption) | (with_reducible refine Below.drewN ?_ _) | (with_reducible refine Below.alloc ?_ ?_ _) | (with_reducible refine Below.drew ?_) | (with_reducible refine Below.setCell ?_ ?_ _) | (with_reducible refine Below.trans ?_ (Below.mono (by assumption) ?_)) | go_size | (with_reducible refine Nat.le_trans ?_ (Below.size (by assumption)))))) (HRD.out j u hu))); (focus (first | (simp; done) | omega | (simp; omega))); intro v3 w3 o3 g3 n3; have b3 := Below.app (B := wo.heap.size) o2 (by omega) g3; have z3 : wo.heap.size ≤ w3.heap.size := Nat.le_trans z2 b3.size)))
          all_goals
            have hbw : Below wo.heap.size wo w3 := by (repeat' (first | (with_reducible exact Below.refl _ _) | (with_reducible assumption) | (with_reducible refine Below.drewN ?_ _) | (with_reducible refine Below.alloc ?_ ?_ _) | (with_reducible refine Below.drew ?_) | (with_reducible refine Below.setCell ?_ ?_ _) | (with_reducible refine Below.trans ?_ (Below.mono (by assumption) ?_)) | go_size | (with_reducible refine Nat.le_trans ?_ (Below.size (by assumption)))))
            have HO3 := Lib.hid o3
            have HBW := Lib.hid hbw
            obtain ⟨g6, cap6, rfl, hg6, hlt6⟩ := World.ownsRow.form o3 (by omega)
            clear o1 o2 o3 g1 g2 g3 b1 b2 b3 n1 n2 n3 hbw
            go_wp2_with fail
            go_meet
            have ho := HO3.out
            have he : 0 + kk + 1 + (k - kk) = k + 1 := by omega
            rw [he] at ho
            (try rw [he])
            exact ⟨g6, cap6, xs.take kk ++ [x] ++ (xs.drop kk).take (k - kk), rfl, INS.out _ _ g6 cap6 HBW.out (by have : [] ++ ic ((xs.drop 0).take kk) ++ [.int .i64 x] ++ ic ((xs.drop kk).take (k - kk)) = ic (xs.take kk ++ [x] ++ (xs.drop kk).take (k - kk)) := (by simp [ic]); rw [this] at ho; exact ho) hg6⟩
        · obtain rfl : kk = k := by omega
          by_cases hck : c4 = kk
          · obtain rfl : kk = c4 := hck.symm
            go_region_held3 (fun w' => True ∧ Below wo.heap.size wo w')
              ((exact ⟨trivial, by (repeat' (first | (with_reducible exact Below.refl _ _) | (with_reducible assumption) | (with_reducible refine Below.drewN ?_ _) | (with_reducible refine Below.alloc ?_ ?_ _) | (with_reducible refine Below.drew ?_) | (with_reducible refine Below.setCell ?_ ?_ _) | (with_reducible refine Below.trans ?_ (Below.mono (by assumption) ?_)) | go_size | (with_reducible refine Nat.le_trans ?_ (Below.size (by assumption)))))⟩))
              ((first
                | ((refine step_appS (by rfl) (.tmp 26) (.tmp 29) 22 (by rfl) wo.heap.size 3 (.int .i64 0) 8 Try.underlying22 infoI rfl (by decide) (.slice (some ⟨_, 0, none⟩) 0 0) 0 [] (by rfl) ⟨g4, 0, none⟩ kk _ (ic ((xs.drop 0).take kk)) (by rfl) ?_ hlk ?_ ic_one (by omega) ?_ ?_); (focus (first | exact own0 (by simp) (by simp) | exact World.ownsRow.alloc (own0 (by simp) (by simp)) _)); (focus (intro j u hu; exact HBO.out _ _ _ (by (repeat' (first | (with_reducible exact Below.refl _ _) | (with_reducible assumption) | (with_reducible refine Below.drewN ?_ _) | (with_reducible refine Below.alloc ?_ ?_ _) | (with_reducible refine Below.drew ?_) | (with_reducible refine Below.setCell ?_ ?_ _) | (with_reducible refine Below.trans ?_ (Below.mono (by assumption) ?_)) | go_size | (with_reducible refine Nat.le_trans ?_ (Below.size (by assumption)))))) (HRK.out j u hu))); (focus (first | (simp; done) | omega | (simp; omega))); intro v1 w1 o1 g1 n1; have b1 := Below.app (B := wo.heap.size) (by first | exact (own0 (t := 3) (by simp) (by simp)) | exact World.ownsRow.alloc (own0 (t := 3) (by simp) (by simp)) _) (by first | (simp; done) | (simp; omega)) g1; have z1 : wo.heap.size ≤ w1.heap.size := Nat.le_trans (by first | (simp; done) | (simp; omega)) b1.size)
                | ((refine step_appS (by rfl) (.tmp 30) (.tmp 32) 22 (by rfl) wo.heap.size 3 (.int .i64 0) 8 Try.underlying22 infoI rfl (by decide) _ (0 + kk) ([] ++ ic ((xs.drop 0).take kk)) (by rfl) ⟨_, 0, none⟩ 1 _ [.int .i64 x] (by rfl) ?_ rfl ?_ (one_one _) (by omega) ?_ ?_); (focus (first | exact o1 | exact World.ownsRow.alloc o1 _)); (focus (first | exact cell_one_new _ _ _ | (refine news_one ((g1.cell_far _ ?_ ?_).trans ?_) <;> first | (exact cell_xy (by simp)) | (simp [Value.ownBlock]; done) | (simp [go_sem]; done)))); (focus (first | (simp; done) | omega | (simp; omega))); intro v2 w2 o2 g2 n2; have b2 := Below.app (B := wo.heap.size) (by first | exact o1 | exact World.ownsRow.alloc o1 _) (by first | omega | (simp; omega)) g2; have z2 : wo.heap.size ≤ w2.heap.size := Nat.le_trans (by first | omega | (simp; omega)) b2.size)
                | ((refine step_appS (by rfl) (.tmp 33) (.tmp 36) 22 (by rfl) wo.heap.size 3 (.int .i64 0) 8 Try.underlying22 infoI rfl (by decide) _ (0 + kk + 1) ([] ++ ic ((xs.drop 0).take kk) ++ [.int .i64 x]) (by rfl) _ 0 _ [] (by rfl) ?_ rfl ?_ (fun u hu => by cases hu) (by omega) ?_ ?_); (focus exact o2); (focus (intro j u hu; simp at hu)); (focus (first | (simp; done) | omega | (simp; omega))); intro v3 w3 o3 g3 n3; have b3 := Below.app (B := wo.heap.size) o2 (by omega) g3; have z3 : wo.heap.size ≤ w3.heap.size := Nat.le_trans z2 b3.size)))
            all_goals
              have hbw : Below wo.heap.size wo w3 := by (repeat' (first | (with_reducible exact Below.refl _ _) | (with_reducible assumption) | (with_reducible refine Below.drewN ?_ _) | (with_reducible refine Below.alloc ?_ ?_ _) | (with_reducible refine Below.drew ?_) | (with_reducible refine Below.setCell ?_ ?_ _) | (with_reducible refine Below.trans ?_ (Below.mono (by assumption) ?_)) | go_size | (with_reducible refine Nat.le_trans ?_ (Below.size (by assumption)))))
              have HO3 := Lib.hid o3
              have HBW := Lib.hid hbw
              obtain ⟨g6, cap6, rfl, hg6, hlt6⟩ := World.ownsRow.form o3 (by omega)
              clear o1 o2 o3 g1 g2 g3 b1 b2 b3 n1 n2 n3 hbw
              go_wp2_with fail
              go_meet
              have ho := HO3.out
              have he : 0 + kk + 1 + 0 = kk + 1 := by omega
              rw [he] at ho
              (try rw [he])
              exact ⟨g6, cap6, xs.take kk ++ [x], rfl, INS.out _ _ g6 cap6 HBW.out (by have : [] ++ ic ((xs.drop 0).take kk) ++ [.int .i64 x] ++ [] = ic (xs.take kk ++ [x]) := (by simp [ic]); rw [this] at ho; exact ho) hg6⟩
          · have q7 : ¬ kk = c4 := fun e => hck e.symm
            go_region_held3 (fun w' => True ∧ Below wo.heap.size wo w')
              ((exact ⟨trivial, by (repeat' (first | (with_reducible exact Below.refl _ _) | (with_reducible assumption) | (with_reducible refine Below.drewN ?_ _) | (with_reducible refine Below.alloc ?_ ?_ _) | (with_reducible refine Below.drew ?_) | (with_reducible refine Below.setCell ?_ ?_ _) | (with_reducible refine Below.trans ?_ (Below.mono (by assumption) ?_)) | go_size | (with_reducible refine Nat.le_trans ?_ (Below.size (by assumption)))))⟩))
              ((first
                | ((refine step_appS (by rfl) (.tmp 26) (.tmp 29) 22 (by rfl) wo.heap.size 3 (.int .i64 0) 8 Try.underlying22 infoI rfl (by decide) (.slice (some ⟨_, 0, none⟩) 0 0) 0 [] (by rfl) ⟨g4, 0, none⟩ kk _ (ic ((xs.drop 0).take kk)) (by rfl) ?_ hlk ?_ ic_one (by omega) ?_ ?_); (focus (first | exact own0 (by simp) (by simp) | exact World.ownsRow.alloc (own0 (by simp) (by simp)) _)); (focus (intro j u hu; exact HBO.out _ _ _ (by (repeat' (first | (with_reducible exact Below.refl _ _) | (with_reducible assumption) | (with_reducible refine Below.drewN ?_ _) | (with_reducible refine Below.alloc ?_ ?_ _) | (with_reducible refine Below.drew ?_) | (with_reducible refine Below.setCell ?_ ?_ _) | (with_reducible refine Below.trans ?_ (Below.mono (by assumption) ?_)) | go_size | (with_reducible refine Nat.le_trans ?_ (Below.size (by assumption)))))) (HRK.out j u hu))); (focus (first | (simp; done) | omega | (simp; omega))); intro v1 w1 o1 g1 n1; have b1 := Below.app (B := wo.heap.size) (by first | exact (own0 (t := 3) (by simp) (by simp)) | exact World.ownsRow.alloc (own0 (t := 3) (by simp) (by simp)) _) (by first | (simp; done) | (simp; omega)) g1; have z1 : wo.heap.size ≤ w1.heap.size := Nat.le_trans (by first | (simp; done) | (simp; omega)) b1.size)
                | ((refine step_appS (by rfl) (.tmp 30) (.tmp 32) 22 (by rfl) wo.heap.size 3 (.int .i64 0) 8 Try.underlying22 infoI rfl (by decide) _ (0 + kk) ([] ++ ic ((xs.drop 0).take kk)) (by rfl) ⟨_, 0, none⟩ 1 _ [.int .i64 x] (by rfl) ?_ rfl ?_ (one_one _) (by omega) ?_ ?_); (focus (first | exact o1 | exact World.ownsRow.alloc o1 _)); (focus (first | exact cell_one_new _ _ _ | (refine news_one ((g1.cell_far _ ?_ ?_).trans ?_) <;> first | (exact cell_xy (by simp)) | (simp [Value.ownBlock]; done) | (simp [go_sem]; done)))); (focus (first | (simp; done) | omega | (simp; omega))); intro v2 w2 o2 g2 n2; have b2 := Below.app (B := wo.heap.size) (by first | exact o1 | exact World.ownsRow.alloc o1 _) (by first | omega | (simp; omega)) g2; have z2 : wo.heap.size ≤ w2.heap.size := Nat.le_trans (by first | omega | (simp; omega)) b2.size)
                | ((refine step_appS (by rfl) (.tmp 33) (.tmp 36) 22 (by rfl) wo.heap.size 3 (.int .i64 0) 8 Try.underlying22 infoI rfl (by decide) _ (0 + kk + 1) ([] ++ ic ((xs.drop 0).take kk) ++ [.int .i64 x]) (by rfl) _ 0 _ [] (by rfl) ?_ rfl ?_ (fun u hu => by cases hu) (by omega) ?_ ?_); (focus exact o2); (focus (intro j u hu; simp at hu)); (focus (first | (simp; done) | omega | (simp; omega))); intro v3 w3 o3 g3 n3; have b3 := Below.app (B := wo.heap.size) o2 (by omega) g3; have z3 : wo.heap.size ≤ w3.heap.size := Nat.le_trans z2 b3.size)))
            all_goals
              have hbw : Below wo.heap.size wo w3 := by (repeat' (first | (with_reducible exact Below.refl _ _) | (with_reducible assumption) | (with_reducible refine Below.drewN ?_ _) | (with_reducible refine Below.alloc ?_ ?_ _) | (with_reducible refine Below.drew ?_) | (with_reducible refine Below.setCell ?_ ?_ _) | (with_reducible refine Below.trans ?_ (Below.mono (by assumption) ?_)) | go_size | (with_reducible refine Nat.le_trans ?_ (Below.size (by assumption)))))
              have HO3 := Lib.hid o3
              have HBW := Lib.hid hbw
              obtain ⟨g6, cap6, rfl, hg6, hlt6⟩ := World.ownsRow.form o3 (by omega)
              clear o1 o2 o3 g1 g2 g3 b1 b2 b3 n1 n2 n3 hbw
              go_wp2_with fail
              go_meet
              have ho := HO3.out
              have he : 0 + kk + 1 + 0 = kk + 1 := by omega
              rw [he] at ho
              (try rw [he])
              exact ⟨g6, cap6, xs.take kk ++ [x], rfl, INS.out _ _ g6 cap6 HBW.out (by have : [] ++ ic ((xs.drop 0).take kk) ++ [.int .i64 x] ++ [] = ic (xs.take kk ++ [x]) := (by simp [ic]); rw [this] at ho; exact ho) hg6⟩
      case rest =>
        obtain ⟨g6, cap6, L, rfl, ha, hb, hne, hr, hg⟩ := hcut
        have A6 := Lib.hid ha
        have B6 := Lib.hid hb
        have R6 := Lib.hid hr
        have G6 := Lib.hid hg
        clear ha hb hr hg HR4 R1 HT1 HG1 INS hzo hgo hxl lg5 hcap
        go_upto_region 9 with (first
          | (go_at_call 63; refine (pick_any g n c ad (p + 1) 25 _ R6.out (by omega) (by omega) (by omega)).mono ?_; rintro e w5 ⟨v5, rfl, v50, v51, r5, h5⟩; have A5 := Lib.hid (A6.out.grown h5 (fun e => by have h1 : g6 = g := Option.some.inj e; have := (Blk.of_own A6.out).2; omega)); have B5 := Lib.hid (B6.out.grown h5 (fun e => by have h1 : g5 = g := Option.some.inj e; have := (Blk.of_own B6.out).2; omega)); have G5 := Lib.hid (grown_trans G6.out h5); have R5 := Lib.hid r5; have z5 := G5.out.size)
          | (at_builtin; refine wpList_app1 rfl (.tmp 38) (.tmp 42) 22 rfl w.heap.size 3 (.int .i64 0) 1 8 Try.underlying22 infoI rfl (by decide) (by decide) _ _ _ rfl (World.ownsRow.alloc B5.out _) ⟨w5.heap.size, 0, none⟩ 1 [.int .i64 (v5 - 12)] rfl rfl (cell_one_new _ _ _) (by simp [Value.oneCell']) (by omega) (by simp; omega) ?_; intro g9 cap9 w9 o1 o2 o3))
        obtain ⟨b9, a9, n9, r9, h9⟩ := app_facts B5.out A5.out (Ne.symm hne) R5.out G5.out rfl hgl o1 o2 o3
        have B9 := Lib.hid b9
        have A9 := Lib.hid a9
        have R9 := Lib.hid r9
        have G9 := Lib.hid h9
        clear b9 a9 r9 h9 o1 o2 o3 A6 B6 R6 G6 A5 B5 R5 G5
        go_wp2_with (go_at_call 63; refine (pick_any g n c ad (p + 1 + 1) 3 _ R9.out (by omega) (by omega) (by omega)).mono ?_; rintro e w7 ⟨v7, rfl, v70, v71, r7, h7⟩)
        have A7 := A9.out.grown h7 (fun e => by have h1 : g6 = g := Option.some.inj e; have := (Blk.of_own A9.out).2; omega)
        have B7 := B9.out.grown h7 (fun e => by have h1 : g9 = g := Option.some.inj e; have := (Blk.of_own B9.out).2; omega)
        go_roundw
        case rel => exact ⟨k + 1, g6, cap6, g9, cap9, L, ws ++ [_], p + 1 + 1 + 1, _, by go_num, by go_num, rfl, by go_num, by omega, by omega, ⟨A7, B7, Ne.symm n9⟩, r7, grown_trans G9.out h7⟩
        case measure => simp; omega
    · have HL4 := Lib.hid HT.out.a.len
      have HL5 := Lib.hid HT.out.b.len
      have hkn : k ≤ 6 := by omega
      clear hk
      by_cases hk1 : 1 < k
      · have t1 : decide ((k : Int) > 1) = true := by simp; omega
        have t1' : decide ((1 : Int) < (k : Int)) = true := by simp; omega
        have t1n : decide (1 < k) = true := by simp; omega
        go_wp2_with (go_at_call 63; fail)
        refine (pick_any g n c ad p 24 _ HR.out (by omega) (by omega) (by omega)).mono ?_
        rintro e w1 ⟨v1, rfl, v10, v11, r1, h1⟩
        have R1 := Lib.hid r1
        have HT1 := Lib.hid (HT.out.grown h1 hgl)
        have HG1 := Lib.hid (grown_trans HG.out h1)
        have hz1 := HG1.out.size
        clear r1 h1 HT HG HR
        by_cases e0 : v1 = 0
        · have t2 : (v1 == 0) = true := by rw [e0]; rfl
          have hl4 := HL4.out
          have hl5 := HL5.out
          have k4 := (Blk.of_own HT1.out.a).1
          have c0 := k4.cell (j := 0) (get_ic (k := 0) (by omega))
          have c1 := k4.cell (j := 1) (get_ic (k := 1) (by omega))
          have f0 := k4.frozen 0
          obtain ⟨y, hy⟩ : ∃ y, gi xs 1 = y := ⟨_, rfl⟩
          rw [hy] at c1
          have lg4 := (Blk.of_own HT1.out.a).1.lt
          have hgo := R1.out.blk.lt
          have hne4 : g4 ≠ g := by omega
          have hk1' : (1 : Int) < (k : Int) := by omega
          have hk0' : (0 : Int) < (k : Int) := by omega
          have hk0n : 0 < k := by omega
          clear hl4 hl5
          go_wp2_with fail
          go_ret2
          have hl4 := HL4.out
          have hl5 := HL5.out
          have hk' := k4.set 0 (.int .i64 y)
          rw [ic_set] at hk'
          have h5 := (Blk.of_own HT1.out.b).1.other (.int .i64 y) (a := ⟨g4, 0, none⟩) (fun h => HT1.out.ne h)
          refine ⟨g4, c4, g5, c5, xs.set 0 y, ws, by rw [List.length_set, hl4, hl5]; rfl, hg4, hg5, hk'.row, h5.row, ⟨by rw [List.length_set]; omega, by have := OwnI.cap HT1.out.a; rw [List.length_set]; omega⟩, ⟨by omega, by have := OwnI.cap HT1.out.b; omega⟩, p + 1, by omega, ?_, ?_⟩
          · exact R1.out.keep (b := g4) (grownBy_set (grownBy_refl _ _) _) (by omega)
          · exact grown_far HG1.out (grownBy_set (grownBy_refl _ _) _) hg4
        · have t2 : (v1 == 0) = false := by simpa using e0
          go_wp2_with fail
          go_ret2
          have hl4 := HL4.out
          have hl5 := HL5.out
          exact ⟨g4, c4, g5, c5, xs, ws, by rw [hl4, hl5]; rfl, hg4, hg5, HT1.out.a.row, HT1.out.b.row, ⟨by omega, by have := OwnI.cap HT1.out.a; omega⟩, ⟨by omega, by have := OwnI.cap HT1.out.b; omega⟩, p + 1, by omega, R1.out, HG1.out⟩
      · have t1 : decide ((k : Int) > 1) = false := by simp; omega
        have t1' : decide ((1 : Int) < (k : Int)) = false := by simp; omega
        have t1n : decide (1 < k) = false := by simp; omega
        go_wp2_with fail
        go_ret2
        have hl4 := HL4.out
        have hl5 := HL5.out
        exact ⟨g4, c4, g5, c5, xs, ws, by rw [hl4, hl5]; rfl, hg4, hg5, HT.out.a.row, HT.out.b.row, ⟨by omega, by have := OwnI.cap HT.out.a; omega⟩, ⟨by omega, by have := OwnI.cap HT.out.b; omega⟩, p, by omega, HR.out, HG.out⟩

end Go.Proofs.Ytoioafadenniiaa
