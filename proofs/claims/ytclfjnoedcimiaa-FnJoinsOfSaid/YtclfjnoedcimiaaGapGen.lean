/- The generators of gaps: rows of the call's own, at most six. -/
import Derived.Test.YtclfjnoedcimiaaGapW
import Derived.Deep.RegionHeld3
namespace Go.Proofs.Ytclfjnoedcimiaa
open Go.RowKit

theorem GM.mono {w : World} {base base' g4 c4 k n : Nat} (h : GM w base g4 c4 k n) (hb : base' ≤ base) : GM w base' g4 c4 k n := by
  obtain ⟨cs, h1, h2⟩ := h.own
  refine ⟨cs, ?_, fun j u hu => ?_⟩
  · rcases h1 with ⟨a1, a2 | ⟨g, cap, cur, b1, b2, b3⟩⟩
    · exact ⟨a1, .inl a2⟩
    · exact ⟨a1, .inr ⟨g, cap, cur, b1, Nat.le_trans hb b2, b3⟩⟩
  · obtain ⟨h, c, xs, a1, a2, a3⟩ := h2 j u hu
    exact ⟨h, c, xs, a1, Nat.le_trans hb a2, a3⟩
theorem cell_one_at {w : World} {g : Nat} (hg : w.heap.size = g) (v : Value) (e : TypeId) : ∀ j u, [v][j]? = some u → (w.alloc (.cells #[v] e)).cell? ((⟨g, 0, none⟩ : Addr).add j) = some u := by
  subst hg
  exact cell_one_new w v e
theorem keepT_drew {W : World} {b o : Nat} {v : Value} (h : W.cell? ⟨b, o, none⟩ = some v ∧ True) : W.drew.cell? ⟨b, o, none⟩ = some v ∧ True := ⟨keepC below_drew h.1, trivial⟩
theorem keepT_alloc {W : World} {b o : Nat} {v : Value} {x : Obj} (h : W.cell? ⟨b, o, none⟩ = some v ∧ True) : (W.alloc x).cell? ⟨b, o, none⟩ = some v ∧ True := ⟨keepC below_alloc h.1, trivial⟩
theorem keepT_grown {W W' : World} {b o g : Nat} {v : Value} (h : W.cell? ⟨b, o, none⟩ = some v ∧ True) (hg : W.grownBy W' (some g)) (hne : b ≠ g) : W'.cell? ⟨b, o, none⟩ = some v ∧ True := ⟨hg.cell h.1 (fun e => hne (Option.some.inj e)), trivial⟩
theorem keepT_set {W : World} {b o r i : Nat} {v x : Value} (h : W.cell? ⟨b, o, none⟩ = some v ∧ True) (hne : r ≠ b) : (W.setCell ⟨r, i, none⟩ x).cell? ⟨b, o, none⟩ = some v ∧ True :=
  ⟨(World.cell?_of_block (a := ⟨b, o, none⟩) (Below.heap_setCell W ⟨r, i, none⟩ x b (fun e => hne e.symm))).trans h.1, trivial⟩
theorem zeros_ic (n : Nat) : (madeCells #[.int .i64 0] n).toList = ic (List.replicate n 0) := by
  rw [toList_madeCells_one]
  unfold ic
  rw [List.map_replicate]

set_option maxHeartbeats 8000000 in
theorem someGaps_any (g n c : Nat) (ad : Option Addr) (w : World) (h : Rdr w g ad n c 0) :
    Calls Try.prog 33 #[.pointer (some ⟨g, 0, none⟩)] w fun e w' => ∃ (g1 c1 k m : Nat) (p' : Int),
      e = .returned (.slice (some ⟨g1, 0, none⟩) k c1) ∧ k ≤ 6 ∧ GM w' w.heap.size g1 c1 k m ∧ p' ≤ 60 ∧ Rdr w' g ad n c p' ∧ w.grownBy w' (some g) := by
  have hgl := h.blk.lt
  have H := Lib.hid h
  clear h
  have hb8 : ∀ k, k < 6 → 1 ≤ gi [4, 5, 3, 6, 2, 1] k ∧ gi [4, 5, 3, 6, 2, 1] k ≤ 6 := by decide
  have hb9 : ∀ k, k < 4 → 1 ≤ gi [5, 12, 40, 2] k ∧ gi [5, 12, 40, 2] k ≤ 40 := by decide
  have h8 := row_made w [4, 5, 3, 6, 2, 1]
  have hba : Below w.heap.size w (w.alloc (.cells (ic [4, 5, 3, 6, 2, 1]).toArray 3)) := below_alloc
  go_enter Try.func33, Try.ntmps33
  go_upto_region 3 with (go_at_call 34; refine (one_any g n c w.heap.size 0 6 ad 0 [4, 5, 3, 6, 2, 1] _ (H.out.below hba) h8 (by omega) (by omega) (by simp) (by simp)).mono ?_; rintro e w4 ⟨k0, hk0, rfl, hr4, hg4⟩)
  have hn8 := hb8 k0 hk0
  obtain ⟨nn, hnn⟩ : ∃ nn : Nat, gi [4, 5, 3, 6, 2, 1] k0 = (nn : Int) := ⟨(gi [4, 5, 3, 6, 2, 1] k0).toNat, by omega⟩
  rw [hnn] at hn8 ⊢
  have n1 : 1 ≤ nn := by omega
  have n6 : nn ≤ 6 := by omega
  have hmk := run_make_row' (P := Try.prog) 36 3 (.int .i64 0) 8 Try.underlying36 infoI rfl .i64 .i64 nn (by omega) (by omega)
  have HG4 := Lib.hid (grown_trans (grown_of_below (some g) hba) hg4)
  have HR4 := Lib.hid hr4
  have z4 := HG4.out.size
  clear hr4 hg4 hba h8 hb8 hk0 hnn hn8
  refine wp_abstract (fun W => GM W w.heap.size w4.heap.size 0 0 nn ∧ Rdr W g ad n c (0 + 1) ∧ w.grownBy W (some g)) ⟨GM.nil w4 w.heap.size nn z4, HR4.out.below below_alloc, grown_trans HG4.out (grown_of_below _ below_alloc)⟩ ?_
  rintro W1 ⟨gm, hr, hg⟩
  have GM1 := Lib.hid gm
  have R1 := Lib.hid hr
  have G1 := Lib.hid hg
  clear gm hr hg HG4 HR4
  go_wp2_with fail
  go_loopw [4, 5] (fun v4 v5 wr => ∃ k g4 c4 : Nat, v5 = .int .i64 k ∧ k ≤ nn ∧ v4 = .slice (some ⟨g4, 0, none⟩) k c4 ∧ GM wr w.heap.size g4 c4 k nn ∧ Rdr wr g ad n c (0 + 1) ∧ w.grownBy wr (some g)) (fun _ v5 _ => nn - (intOf v5).toNat)
  case atStart => exact ⟨0, w4.heap.size, 0, rfl, Nat.zero_le _, rfl, GM1.out, R1.out, G1.out⟩
  case round =>
    clear GM1 R1 G1
    obtain ⟨k, g4, c4, rfl, hk, rfl, hgm, hr, hg⟩ := hrel
    have G := Lib.hid hgm
    have R := Lib.hid hr
    have HG := Lib.hid hg
    have hz := hg.size
    have hgb := hgm.base
    by_cases hlt : k < nn
    · obtain ⟨cs, o0, hcs⟩ := hgm.own
      have O0 := Lib.hid o0
      have HCS := Lib.hid hcs
      clear hgm hr hg o0 hcs
      have b5 : Below wr.heap.size wr (wr.alloc (.cells (madeCells #[.int .i64 0] nn) 3)) := below_alloc
      have kz : Blk (wr.alloc (.cells (madeCells #[.int .i64 0] nn) 3)) wr.heap.size 3 (ic (List.replicate nn 0)) := by rw [← zeros_ic]; exact Blk.made _ _ _
      have KZ := Lib.hid kz
      clear kz
      go_wp2_with (at_builtin; refine wpList_app1 rfl (.tmp 19) (.tmp 22) 23 rfl w.heap.size 36 (.slice none 0 0) 1 24 Try.underlying23 infoSS rfl (by decide) (by decide) _ _ _ rfl (own_below (own_below O0.out b5) below_alloc) ⟨_, 0, none⟩ 1 [.slice (some ⟨wr.heap.size, 0, none⟩) nn nn] rfl rfl (cell_one_at (by simp) _ _) (by simp [Value.oneCell']) (by omega) (by simp; omega) ?_; intro g6 cap6 w6 p1 p2 p3)
      have P2 := show World.grownBy _ w6 (some g4) from p2
      have P3 := show some g4 = some g6 ∨ _ ≤ g6 from p3
      clear p2 p3
      have BA := Lib.hid (b5.trans ((below_alloc (W := wr.alloc (.cells (madeCells #[.int .i64 0] nn) 3)) (o := .cells #[.slice (some ⟨wr.heap.size, 0, none⟩) nn nn] 36)).mono (by simp)))
      have G6 := Lib.hid (GM.app G.out BA.out (show w.heap.size ≤ wr.heap.size by omega) (show wr.heap.size ≠ g4 by omega) (by simp; omega) (by simp) (KZ.out.below below_alloc) HCS.out p1 P2 P3)
      have R6 := Lib.hid ((R.out.below BA.out).keep P2 (by omega))
      have HG6 := Lib.hid (grown_far (grown_trans HG.out (grown_of_below _ BA.out)) P2 (by omega))
      go_roundw
      case rel => exact ⟨k + 1, g6, cap6, by go_num, by omega, rfl, G6.out, R6.out, HG6.out⟩
      case measure => simp [intOf]; omega
    · obtain rfl : k = nn := by omega
      clear hgm hr hg hmk
      have h8 := row_made wr [5, 12, 40, 2]
      have hba : Below wr.heap.size wr (wr.alloc (.cells (ic [5, 12, 40, 2]).toArray 3)) := below_alloc
      go_upto_region 8 with (go_at_call 34; refine (one_any g n c wr.heap.size 0 4 ad (0 + 1) [5, 12, 40, 2] _ (R.out.below hba) h8 (by omega) (by omega) (by simp) (by simp)).mono ?_; rintro e w4 ⟨k0, hk0, rfl, hr4, hg4⟩)
      have hn8 := hb9 k0 hk0
      obtain ⟨mm, hmm⟩ : ∃ m, gi [5, 12, 40, 2] k0 = m := ⟨_, rfl⟩
      rw [hmm] at hn8 ⊢
      have GM1 := Lib.hid ((G.out.below hba).grown hg4 (by omega))
      have HG1 := Lib.hid (grown_trans (grown_trans HG.out (grown_of_below (some g) hba)) hg4)
      have HR1 := Lib.hid hr4
      clear hr4 hg4 hba h8 hb9 hk0 hmm G R HG hz
      go_wp2_with fail
      go_loopw [7] (fun v7 wr => ∃ (a : Nat) (p : Int), v7 = .int .i64 a ∧ a ≤ k ∧ p ≤ 2 + 6 * (a : Int) ∧ GM wr w.heap.size g4 c4 k k ∧ Rdr wr g ad n c p ∧ w.grownBy wr (some g)) (fun v7 _ => k - (intOf v7).toNat)
      case atStart => exact ⟨0, _, rfl, Nat.zero_le _, by omega, GM1.out, HR1.out, HG1.out⟩
      case round =>
        clear GM1 HR1 HG1
        obtain ⟨a, p, rfl, ha, hp, hgm, hr, hg⟩ := hrel
        have G := Lib.hid hgm
        have R := Lib.hid hr
        have HG := Lib.hid hg
        clear hgm hr hg
        by_cases hla : a < k
        · go_wp2_with fail
          go_loopw [8] (fun v8 wr => ∃ (b : Nat) (p : Int), v8 = .int .i64 b ∧ b ≤ a ∧ p ≤ 2 + 6 * (a : Int) + (b : Int) ∧ GM wr w.heap.size g4 c4 k k ∧ Rdr wr g ad n c p ∧ w.grownBy wr (some g)) (fun v8 _ => a - (intOf v8).toNat)
          case atStart => exact ⟨0, p, rfl, Nat.zero_le _, by omega, G.out, R.out, HG.out⟩
          case round =>
            clear G R HG hp
            obtain ⟨b, p, rfl, hb, hp, hgm, hr, hg⟩ := hrel
            have G := Lib.hid hgm
            have R := Lib.hid hr
            have HG := Lib.hid hg
            clear hgm hr hg
            by_cases hlb : b < a
            · go_upto_region 15 with (go_at_call 56; refine (pick_any g n c ad p mm _ R.out (by omega) (by omega) (by omega)).mono ?_; rintro e w5 ⟨v1, rfl, v10, v11, r1, h1⟩)
              have G1 := Lib.hid (G.out.grown h1 (by omega))
              have HG1 := Lib.hid (grown_trans HG.out h1)
              have HR1 := Lib.hid r1
              clear r1 h1 G HG R
              have q1 : IntKind.i64.wrap (1 + v1) = 1 + v1 := IntWalk.i64_in _ (by omega)
              obtain ⟨ra, ca, xa, y1, s1, s2, s3, k1⟩ := G1.out.at' hla
              have x1 := k1.cell (get_ic (xs := xa) (k := b) (by omega))
              have f1 := k1.frozen b
              have HS2 := Lib.hid s2
              have lb : b < k := by omega
              go_upto_region 16 with fail
              have s0 := HG1.out.size
              refine wp_abstract (fun W => GM W w.heap.size g4 c4 k k ∧ Rdr W g ad n c (p + 1) ∧ w.grownBy W (some g)) ⟨G1.out.set s2 _, HR1.out.keep (grownBy_set (grownBy_refl _ _) _) (show g < ra by omega), grown_far HG1.out (grownBy_set (grownBy_refl _ _) _) s1⟩ ?_
              rintro w6 ⟨hgm, hr, hg⟩
              clear k1 s2 x1 f1 y1 G1 HR1 HG1 s3 s0 HS2
              have G2 := Lib.hid hgm
              have R2 := Lib.hid hr
              have HG2 := Lib.hid hg
              clear hgm hr hg
              obtain ⟨rb, cb, xb, y2, s4, s5, s6, k2⟩ := G2.out.at' lb
              have x2 := k2.cell (get_ic (xs := xb) (k := a) (by omega))
              have f2 := k2.frozen a
              have HS5 := Lib.hid s5
              have hwr : w.heap.size ≤ rb := s4
              clear k2 s5 s6 s4 s1
              go_wp2_with fail
              go_roundw
              case rel => exact ⟨b + 1, p + 1, by go_num, by omega, by omega, G2.out.set HS5.out _, R2.out.keep (grownBy_set (grownBy_refl _ _) _) (show g < rb by omega), grown_far HG2.out (grownBy_set (grownBy_refl _ _) _) hwr⟩
              case measure => simp [intOf]; omega
            · obtain rfl : b = a := by omega
              go_wp2_with fail
              go_roundw
              case rel => exact ⟨b + 1, p, by go_num, by omega, by omega, G.out, R.out, HG.out⟩
              case measure => simp [intOf]; omega
        · obtain rfl : a = k := by omega
          go_upto_if 57 with (go_at_call 56; refine (pick_any g n c ad p 4 _ R.out (by omega) (by omega) (by omega)).mono ?_; rintro e w5 ⟨v1, rfl, v10, v11, r1, h1⟩)
          have G1 := Lib.hid (G.out.grown h1 (by omega))
          have HG1 := Lib.hid (grown_trans HG.out h1)
          have HR1 := Lib.hid r1
          have z5 := h1.size
          have s5 := HG1.out.size
          clear r1 h1 G HG R
          go_cut [4] (fun s4 wx => ∃ (g4 c4 : Nat), s4 = .slice (some ⟨g4, 0, none⟩) a c4 ∧ GM wx w.heap.size g4 c4 a a ∧ Rdr wx g ad n c (p + 1) ∧ w.grownBy wx (some g))
          case first =>
            by_cases hv : v1 = 0
            · have t1 : (v1 == 0) = true := by rw [hv]; rfl
              have SW := Lib.hid (smallWays_any g4 c4 a w5 G1.out.rin n1 n6)
              clear hv
              go_wp2_with (go_at_call 57; refine SW.out.mono ?_; rintro e w7 ⟨g7, c7, rfl, hgm, hb7⟩)
              go_meet
              exact ⟨g7, c7, rfl, hgm.mono s5, HR1.out.below hb7, grown_trans HG1.out (grown_of_below _ hb7)⟩
            · have t1 : (v1 == 0) = false := by simpa using hv
              clear hv
              go_wp2
              go_meet
              exact ⟨g4, c4, rfl, G1.out, HR1.out, HG1.out⟩
          case rest =>
            obtain ⟨g4, c4, rfl, hgm, hr, hg⟩ := hcut
            have G := Lib.hid hgm
            have R := Lib.hid hr
            have HG := Lib.hid hg
            clear hgm hr hg G1 HR1 HG1 z5 s5
            go_upto_region 20 with (go_at_call 56; refine (pick_any g n c ad (p + 1) 30 _ R.out (by omega) (by omega) (by omega)).mono ?_; rintro e w6 ⟨v2, rfl, v20, v21, r1, h1⟩)
            have G1 := Lib.hid (G.out.grown h1 (by omega))
            have HG1 := Lib.hid (grown_trans HG.out h1)
            have HR1 := Lib.hid r1
            have z5 := h1.size
            have s5 := HG1.out.size
            clear r1 h1 G HG R
            by_cases e0 : v2 = 0
            · have t1 : (v2 == 0) = true := by rw [e0]; rfl
              obtain ⟨rb, cb, xb, y2, s4, s6, s7, k2⟩ := G1.out.at' (j := 0) (by omega)
              have x2 := k2.cell (get_ic (xs := xb) (k := 0) (by omega))
              have f2 := k2.frozen 0
              have HS := Lib.hid s6
              have la : (0 : Int) < (a : Int) := by omega
              have la2 : 0 < a := by omega
              clear k2 s6 s7
              go_wp2_with fail
              go_ret
              exact ⟨g4, c4, a, a, _, rfl, n6, G1.out.set HS.out _, by omega, HR1.out.keep (grownBy_set (grownBy_refl _ _) _) (show g < rb by omega), grown_far HG1.out (grownBy_set (grownBy_refl _ _) _) s4⟩
            · have t1 : (v2 == 0) = false := by simpa using e0
              by_cases e1 : v2 = 1
              · have t2 : (v2 == 1) = true := by rw [e1]; rfl
                obtain ⟨m, hm⟩ : ∃ m, a = m + 1 := ⟨a - 1, by omega⟩
                obtain ⟨rb, cb, xb, y2, s4, s6, s7, k2⟩ := G1.out.at' (j := m) (by omega)
                have f2 := k2.frozen 0
                have x2 := k2.cell (get_ic (xs := xb) (k := 0) (by omega))
                have q1 : IntKind.i64.wrap ((a : Int) - 1) = (m : Int) := by rw [IntWalk.i64_in _ (by omega)]; omega
                have q2 : (m : Int) < (a : Int) := by omega
                have la : (0 : Int) < (a : Int) := by omega
                have la2 : 0 < a := by omega
                have hne1 : g4 ≠ g := by have := G1.out.base; omega
                have HS := Lib.hid s6
                have hlr := k2.lt
                have hne2 : rb ≠ g := by omega
                have h9 : RowI (w6.drew.alloc (.cells (ic [0, 41]).toArray 3)) w6.heap.size 0 [0, 41] := row_made w6.drew [0, 41]
                have hb9 : Below w6.heap.size w6 (w6.drew.alloc (.cells (ic [0, 41]).toArray 3)) := below_drew.trans (below_alloc.mono (by simp))
                have X2 := Lib.hid (fun (W : World) (hg : (w6.drew.alloc (.cells (ic [0, 41]).toArray 3)).grownBy W (some g)) => (show W.frozen? ⟨rb, 0, none⟩ = false from ((k2.below hb9).grown hg hne2).frozen 0))
                have X3 := Lib.hid (fun (W : World) (hg : (w6.drew.alloc (.cells (ic [0, 41]).toArray 3)).grownBy W (some g)) => (show W.cell? ⟨rb, 0, none⟩ = some (.int .i64 (gi xb 0)) from ((k2.below hb9).grown hg hne2).cell (get_ic (xs := xb) (k := 0) (by omega))))
                clear k2 s6 s7 hm e1 e0
                go_upto_region 23 with fail
                go_region_held3 (fun w' => w'.cell? ⟨g4, m, none⟩ = some (.slice (some ⟨rb, 0, none⟩) a cb) ∧ True)
                  ((first | exact keepT_drew ⟨y2, trivial⟩ | exact keepT_alloc (by assumption) | exact keepT_grown (by assumption) (by assumption) hne1 | exact keepT_set (by assumption) (fun h => HS.out h) | assumption))
                  ((first
                    | (go_at_call 34; refine (one_any g n c w6.heap.size 0 2 ad (p + 1 + 1) [0, 41] _ (HR1.out.below hb9) h9 (by have := HR1.out.blk.lt; omega) (by omega) (by simp) (by simp)).mono ?_; rintro e w8 ⟨k8, hk8, rfl, r8, h8⟩; have x5 := X2.out _ h8; have x6 := X3.out _ h8)))
                go_wp2_with fail
                go_ret
                have g8 := (G1.out.below hb9).grown h8 (show g < w.heap.size by omega)
                exact ⟨g4, c4, a, a, _, rfl, n6, g8.set HS.out _, by omega, r8.keep (grownBy_set (grownBy_refl _ _) _) (show g < rb by omega), grown_far (grown_trans (grown_trans HG1.out (grown_of_below _ hb9)) h8) (grownBy_set (grownBy_refl _ _) _) s4⟩
              · have t2 : (v2 == 1) = false := by simpa using e1
                by_cases e2 : v2 = 2
                · have t3 : (v2 == 2) = true := by rw [e2]; rfl
                  clear e0 e1 e2
                  go_wp2_with fail
                  go_ret
                  exact ⟨_, _, 0, 0, _, rfl, by omega, GM.nil w6 w.heap.size 0 s5, by omega, HR1.out.below below_alloc, grown_trans HG1.out (grown_of_below _ below_alloc)⟩
                · have t3 : (v2 == 2) = false := by simpa using e2
                  clear e0 e1 e2
                  go_wp2_with fail
                  go_ret
                  exact ⟨g4, c4, a, a, _, rfl, n6, G1.out, by omega, HR1.out, HG1.out⟩

end Go.Proofs.Ytclfjnoedcimiaa
