/- impl.atMostPieces by impl.fromMiddle. -/
import Derived.Test.YtfbccnameppikaaLeastMid
import Derived.Test.YtfbccnameppikaaAtP
namespace Go.Proofs.Ytfbccnameppikaa
open Go.RowKit

set_option maxHeartbeats 4000000 in
theorem atMostMid_any (b o c m : Nat) (p : Int) (xs : List Int) (w : World) (h : RowI w b o xs) (hc : xs.length ≤ c) (hv : Rv xs) (hp : 1 ≤ p) (hm : (m : Int) = min p xs.length) (q : Rat) (hq : atQ fmQ xs m = q) :
    Calls Try.prog 38 #[.slice (some ⟨b, o, none⟩) xs.length c, .int .i64 p, .func (.func 48) #[] #[]] w
      fun e w' => e = .returned (.agg #[.int .i64 (up q), .int .i64 (dn q)]) ∧ Below w.heap.size w w' := by
  have n0 := hv.n0
  have n8 := hv.n8
  have H := Lib.hid h
  have CL := Lib.hid (fun w (h : RowI w b o xs) => leastCutMid_any b o c xs w h hc hv)
  have HQ := Lib.hid (show mnQ (outLMid xs m) (m - 1) = q from hq)
  have HS : SmAll 6048000 840 (outLMid xs m) := SmAll.tab fun k hk => (lcN_pq fmQ_good n8 hv.x (p := k) (by omega) (Nat.le_refl _)).sm
  have HS := Lib.hid HS
  obtain ⟨n, hn⟩ : ∃ n, xs.length = n := ⟨_, rfl⟩
  rw [hn] at n0 n8 hm CL ⊢
  have hm1 : 1 ≤ m := by omega
  have hmn : m ≤ n := by omega
  have MF := Lib.hid (show ∀ (g cap : Nat) (w : World), Blk w g 27 (fc (outLMid xs n)) → Calls Try.prog 55 #[.slice (some ⟨g, 0, none⟩) m cap, .func (.func 56) #[] #[]] w
      (fun e w' => e = .returned (.agg #[.int .i64 (up q), .int .i64 (dn q)]) ∧ Below w.heap.size w w') from fun g cap w h => by
    have := minFunc_any 6048000 840 g cap m (outLMid xs m) w (blk_tab h hmn) (tab_length _ _) hm1 (by omega) HS.out (by omega) (by omega)
    rw [HQ.out] at this
    exact this)
  clear h hc hv hq hn HQ HS
  by_cases hpn : p ≤ n
  · have hpm : p = m := by omega
    subst hpm
    have hi : ¬ (n : Int) < (m : Int) := by omega
    have hi2 : min (m : Int) (n : Int) = (m : Int) := by omega
    clear hm hpn
    go_enter Try.func38, Try.ntmps38
    go_wp2_with (first
      | (go_at_call 42; refine (CL.out _ (H.out.below (by (repeat' (first | (with_reducible exact Below.refl _ _) | (with_reducible assumption) | (with_reducible refine Below.drewN ?_ _) | (with_reducible refine Below.alloc ?_ ?_ _) | (with_reducible refine Below.drew ?_) | (with_reducible refine Below.setCell ?_ ?_ _) | (with_reducible refine Below.trans ?_ (Below.mono (by assumption) ?_)) | go_size | (with_reducible refine Nat.le_trans ?_ (Below.size (by assumption)))))))).mono ?_; rintro e w1 ⟨g, cap, rfl, ho, hb1⟩; have hz1 := hb1.size; simp only [World.size_alloc] at hz1; have hcap := ownF_cap ho; have hbk := ho.blk; have kb := (Blk.made w #[.int .i64 0, .int .i64 0] 27).below hb1; clear ho)
      | (go_at_call 55; refine (MF.out g cap _ hbk).mono ?_; rintro e w2 ⟨rfl, hb2⟩; have hz2 := hb2.size; have kb := kb.below hb2; have k0 := kb.cell (j := 0) rfl; have k1 := kb.cell (j := 1) rfl; have f0 := kb.frozen 0; have f1 := kb.frozen 1))
    have y1 := (kb.set 0 (.int .i64 (up q))).cell (j := 0) rfl
    have y2 := ((kb.set 0 (.int .i64 (up q))).set 1 (.int .i64 (dn q))).cell (j := 1) rfl
    refine bodyPost_ret (v := .agg #[.int .i64 (up q), .int .i64 (dn q)]) ?_ rfl ⟨rfl, ?_⟩
    · simp [results, Try.results38, go_sem, y1, y2]
    · exact (((below_alloc.trans (hb1.mono (by simp))).trans (hb2.mono (by omega))).setCell (Nat.le_refl _) _).setCell (Nat.le_refl _) _
  · have hmm : m = n := by omega
    subst hmm
    have hi : (m : Int) < p := by omega
    have hi2 : min p (m : Int) = (m : Int) := by omega
    clear hm hpn
    go_enter Try.func38, Try.ntmps38
    go_wp2_with (first
      | (go_at_call 42; refine (CL.out _ (H.out.below (by (repeat' (first | (with_reducible exact Below.refl _ _) | (with_reducible assumption) | (with_reducible refine Below.drewN ?_ _) | (with_reducible refine Below.alloc ?_ ?_ _) | (with_reducible refine Below.drew ?_) | (with_reducible refine Below.setCell ?_ ?_ _) | (with_reducible refine Below.trans ?_ (Below.mono (by assumption) ?_)) | go_size | (with_reducible refine Nat.le_trans ?_ (Below.size (by assumption)))))))).mono ?_; rintro e w1 ⟨g, cap, rfl, ho, hb1⟩; have hz1 := hb1.size; simp only [World.size_alloc] at hz1; have hcap := ownF_cap ho; have hbk := ho.blk; have kb := (Blk.made w #[.int .i64 0, .int .i64 0] 27).below hb1; clear ho)
      | (go_at_call 55; refine (MF.out g cap _ hbk).mono ?_; rintro e w2 ⟨rfl, hb2⟩; have hz2 := hb2.size; have kb := kb.below hb2; have k0 := kb.cell (j := 0) rfl; have k1 := kb.cell (j := 1) rfl; have f0 := kb.frozen 0; have f1 := kb.frozen 1))
    have y1 := (kb.set 0 (.int .i64 (up q))).cell (j := 0) rfl
    have y2 := ((kb.set 0 (.int .i64 (up q))).set 1 (.int .i64 (dn q))).cell (j := 1) rfl
    refine bodyPost_ret (v := .agg #[.int .i64 (up q), .int .i64 (dn q)]) ?_ rfl ⟨rfl, ?_⟩
    · simp [results, Try.results38, go_sem, y1, y2]
    · exact (((below_alloc.trans (hb1.mono (by simp))).trans (hb2.mono (by omega))).setCell (Nat.le_refl _) _).setCell (Nat.le_refl _) _

end Go.Proofs.Ytfbccnameppikaa
