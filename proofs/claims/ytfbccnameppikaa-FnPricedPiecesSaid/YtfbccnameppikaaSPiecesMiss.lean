/- spec.PiecesMiss. -/
import Derived.Test.YtfbccnameppikaaSLeast
namespace Go.Proofs.Ytfbccnameppikaa
open Go.RowKit

set_option maxHeartbeats 1000000 in
theorem spiecesMiss_any (b o c : Nat) (xs : List Int) (p : Int) (w : World) (h : RowI w b o xs) (hm : xs.length ≤ 1099511627776) :
    Calls Try.prog 14 #[.slice (some ⟨b, o, none⟩) xs.length c, .int .i64 p] w
      fun e w' => e = .returned (.tuple #[.agg #[.int .i64 (ptU xs p), .int .i64 (ptD xs p)], .bool (rvB xs && inB p 1 8)]) ∧ Below w.heap.size w w' := by
  have H := Lib.hid h
  clear h
  have CV := Lib.hid (fun w (h : RowI w b o xs) => validSteps_any b o c xs w h hm)
  cases h1 : rvB xs with
  | false =>
    have e1 : ptU xs p = 0 := by simp [ptU, h1]
    have e2 : ptD xs p = 0 := by simp [ptD, h1]
    rw [h1] at CV
    rw [e1, e2, Bool.false_and]
    clear e1 e2 h1
    go_enter Try.func14, Try.ntmps14
    go_wp2_with (go_at_call 35; refine (CV.out _ (H.out.below (by (repeat' (first | (with_reducible exact Below.refl _ _) | (with_reducible assumption) | (with_reducible refine Below.drewN ?_ _) | (with_reducible refine Below.alloc ?_ ?_ _) | (with_reducible refine Below.drew ?_) | (with_reducible refine Below.setCell ?_ ?_ _) | (with_reducible refine Below.trans ?_ (Below.mono (by assumption) ?_)) | go_size | (with_reducible refine Nat.le_trans ?_ (Below.size (by assumption)))))))).mono ?_; rintro e w1 ⟨rfl, rfl⟩)
    refine bodyPost_ret (v := .tuple #[.agg #[.int .i64 0, .int .i64 0], .bool false]) (by simp [results, Try.results14, go_sem]) rfl ⟨rfl, by (repeat' (first | (with_reducible exact Below.refl _ _) | (with_reducible assumption) | (with_reducible refine Below.drewN ?_ _) | (with_reducible refine Below.alloc ?_ ?_ _) | (with_reducible refine Below.drew ?_) | (with_reducible refine Below.setCell ?_ ?_ _) | (with_reducible refine Below.trans ?_ (Below.mono (by assumption) ?_)) | go_size | (with_reducible refine Nat.le_trans ?_ (Below.size (by assumption)))))⟩
  | true =>
    rw [h1] at CV
    have hv := rv_of h1
    cases h2 : inB p 1 8 with
    | false =>
      have e1 : ptU xs p = 0 := by simp [ptU, h2]
      have e2 : ptD xs p = 0 := by simp [ptD, h2]
      have C2 := Lib.hid (fun w => h2 ▸ inRange_any p 1 8 w)
      rw [e1, e2, Bool.true_and]
      clear e1 e2 h1 h2 hv
      go_enter Try.func14, Try.ntmps14
      go_wp2_with (first | (go_at_call 35; refine (CV.out _ (H.out.below (by (repeat' (first | (with_reducible exact Below.refl _ _) | (with_reducible assumption) | (with_reducible refine Below.drewN ?_ _) | (with_reducible refine Below.alloc ?_ ?_ _) | (with_reducible refine Below.drew ?_) | (with_reducible refine Below.setCell ?_ ?_ _) | (with_reducible refine Below.trans ?_ (Below.mono (by assumption) ?_)) | go_size | (with_reducible refine Nat.le_trans ?_ (Below.size (by assumption)))))))).mono ?_; rintro e w1 ⟨rfl, rfl⟩) | (go_at_call 36; refine (C2.out _).mono ?_; rintro e w1 ⟨rfl, rfl⟩))
      refine bodyPost_ret (v := .tuple #[.agg #[.int .i64 0, .int .i64 0], .bool false]) (by simp [results, Try.results14, go_sem]) rfl ⟨rfl, by (repeat' (first | (with_reducible exact Below.refl _ _) | (with_reducible assumption) | (with_reducible refine Below.drewN ?_ _) | (with_reducible refine Below.alloc ?_ ?_ _) | (with_reducible refine Below.drew ?_) | (with_reducible refine Below.setCell ?_ ?_ _) | (with_reducible refine Below.trans ?_ (Below.mono (by assumption) ?_)) | go_size | (with_reducible refine Nat.le_trans ?_ (Below.size (by assumption)))))⟩
    | true =>
      have hp := inB_iff.1 h2
      have C2 := Lib.hid (fun w => h2 ▸ inRange_any p 1 8 w)
      have e1 : ptU xs p = up (cfN misQ xs (p - 1).toNat 0) := by simp [ptU, h1, h2]
      have e2 : ptD xs p = dn (cfN misQ xs (p - 1).toNat 0) := by simp [ptD, h1, h2]
      rw [e1, e2, Bool.true_and]
      obtain ⟨m, hm1⟩ : ∃ m, (p - 1).toNat = m := ⟨_, rfl⟩
      have hpm : p = ((m + 1 : Nat) : Int) := by omega
      have hm8 : m + 1 ≤ 8 := by omega
      rw [hm1]
      have hAM := am_same hv m
      obtain ⟨q, hq⟩ : ∃ q, cfN misQ xs m 0 = q := ⟨_, rfl⟩
      rw [hq] at hAM ⊢
      have HV := Lib.hid hv
      have HAM := Lib.hid hAM
      have C3 := Lib.hid (fun w (h : RowI w b o xs) => leastMisses_any b o c (m + 1) xs w h hv (by omega) hm8)
      have hpi : p - 1 = (m : Int) := by omega
      obtain ⟨n, hn⟩ : ∃ n, xs.length = n := ⟨_, rfl⟩
      rw [hn] at CV C3 hm HAM ⊢
      have HN := Lib.hid hn
      rw [← hpm] at C3
      have ht : (m : Int) < ((m + 1 : Nat) : Int) := by omega
      have ht2 : (m : Int) < (m : Int) + 1 := by omega
      clear e1 e2 h1 h2 hv hq hp hm1 hAM hn hpm
      go_enter Try.func14, Try.ntmps14
      go_wp2_with (first | (go_at_call 35; refine (CV.out _ (H.out.below (by (repeat' (first | (with_reducible exact Below.refl _ _) | (with_reducible assumption) | (with_reducible refine Below.drewN ?_ _) | (with_reducible refine Below.alloc ?_ ?_ _) | (with_reducible refine Below.drew ?_) | (with_reducible refine Below.setCell ?_ ?_ _) | (with_reducible refine Below.trans ?_ (Below.mono (by assumption) ?_)) | go_size | (with_reducible refine Nat.le_trans ?_ (Below.size (by assumption)))))))).mono ?_; rintro e w1 ⟨rfl, rfl⟩) | (go_at_call 36; refine (C2.out _).mono ?_; rintro e w1 ⟨rfl, rfl⟩) | (go_at_call 39; refine (C3.out _ (H.out.below (by (repeat' (first | (with_reducible exact Below.refl _ _) | (with_reducible assumption) | (with_reducible refine Below.drewN ?_ _) | (with_reducible refine Below.alloc ?_ ?_ _) | (with_reducible refine Below.drew ?_) | (with_reducible refine Below.setCell ?_ ?_ _) | (with_reducible refine Below.trans ?_ (Below.mono (by assumption) ?_)) | go_size | (with_reducible refine Nat.le_trans ?_ (Below.size (by assumption)))))))).mono ?_; rintro e w2 ⟨g, cap, rfl, ho, hb2⟩; have kb := (Blk.made w #[.int .i64 0, .int .i64 0] 27).below hb2; have k0 := kb.cell (j := 0) rfl; have k1 := kb.cell (j := 1) rfl; have f0 := kb.frozen 0; have f1 := kb.frozen 1; obtain ⟨gr, cr, y0, r0⟩ := ho.row (j := m) (by omega); rw [HN.out] at y0 r0; have x1 := r0.f0 (k := n) (by unfold rowA; rw [tab_length]; omega); have x2 := r0.f1 (k := n) (by unfold rowA; rw [tab_length]; omega); rw [show gq (rowA xs m (n + 1)) n = q from (gq_tab (by omega)).trans HAM.out] at x1 x2))
      have y1 := (kb.set 0 (.int .i64 (up q))).cell (j := 0) rfl
      have y2 := ((kb.set 0 (.int .i64 (up q))).set 1 (.int .i64 (dn q))).cell (j := 1) rfl
      refine bodyPost_ret (v := .tuple #[.agg #[.int .i64 (up q), .int .i64 (dn q)], .bool true]) ?_ rfl ⟨rfl, ?_⟩
      · simp [results, Try.results14, go_sem, y1, y2]
      · exact ((below_alloc.trans (hb2.mono (by simp))).setCell (Nat.le_refl _) _).setCell (Nat.le_refl _) _

end Go.Proofs.Ytfbccnameppikaa
