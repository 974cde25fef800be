/- impl.PiecesTried returns what the reference's returns. -/
import Derived.Test.YtfbccnameppikaaCuts
namespace Go.Proofs.Ytfbccnameppikaa
open Go.RowKit

theorem tried_same {xs : List Int} (hv : Rv xs) {p : Nat} (hp : 1 ≤ p) : trN misQ xs p (2 ^ (xs.length - 1)) = cfN misQ xs (p - 1) 0 :=
  (trN_least (c := misQ) hv.ne hp).uniq ((cfN_least misQ xs (p - 1) 0 hv.n0).congr fun n _ => by omega)

set_option maxHeartbeats 2000000 in
theorem piecesTried_any (b o c : Nat) (xs : List Int) (p : Int) (w : World) (h : RowI w b o xs) (hm : xs.length ≤ 1099511627776) (hc : xs.length ≤ c) :
    Calls Try.prog 8 #[.slice (some ⟨b, o, none⟩) xs.length c, .int .i64 p] w
      fun e w' => e = .returned (.tuple #[.agg #[.int .i64 (ptU xs p), .int .i64 (ptD xs p)], .bool (rvB xs && inB p 1 8)]) ∧ Below w.heap.size w w' := by
  have H := Lib.hid h
  have hb := h.blk
  clear h
  have CV := Lib.hid (fun w (h : RowI w b o xs) => cutValid_any b o c xs p w h hm)
  cases h1 : cvB xs p with
  | false =>
    have h2 : (rvB xs && inB p 1 8) = false := h1
    have e1 : ptU xs p = 0 := by simp only [ptU, h2]; rfl
    have e2 : ptD xs p = 0 := by simp only [ptD, h2]; rfl
    rw [h1] at CV
    rw [e1, e2, h2]
    clear e1 e2 h1 h2
    go_enter Try.func8, Try.ntmps8
    go_wp2_with (go_at_call 28; refine (CV.out _ (H.out.below (by (repeat' (first | (with_reducible exact Below.refl _ _) | (with_reducible assumption) | (with_reducible refine Below.drewN ?_ _) | (with_reducible refine Below.alloc ?_ ?_ _) | (with_reducible refine Below.drew ?_) | (with_reducible refine Below.setCell ?_ ?_ _) | (with_reducible refine Below.trans ?_ (Below.mono (by assumption) ?_)) | go_size | (with_reducible refine Nat.le_trans ?_ (Below.size (by assumption)))))))).mono ?_; rintro e w1 ⟨rfl, hb1⟩; have kb := (((Blk.made (w.alloc (.cells #[.int .i64 p] 3)) #[.int .i64 0, .int .i64 0] 27).below hb1)); rw [World.size_alloc] at kb; have k0 := kb.cell (j := 0) rfl; have k1 := kb.cell (j := 1) rfl; have f0 := kb.frozen 0; have f1 := kb.frozen 1; have l1 := kb.lt)
    have y1 := (kb.set 0 (.int .i64 0)).cell (j := 0) rfl
    have y2 := ((kb.set 0 (.int .i64 0)).set 1 (.int .i64 0)).cell (j := 1) rfl
    refine bodyPost_ret (v := .tuple #[.agg #[.int .i64 0, .int .i64 0], .bool false]) ?_ rfl ⟨rfl, ?_⟩
    · simp [results, Try.results8, go_sem, y1, y2]
    · exact ((((below_alloc.alloc (by simp) _).trans (hb1.mono (by simp; omega))).setCell (by simp) _).setCell (by simp) _)
  | true =>
    have h2 : (rvB xs && inB p 1 8) = true := h1
    have h3 := h2
    rw [Bool.and_eq_true] at h3
    have hv := rv_of h3.1
    have hp := inB_iff.1 h3.2
    obtain ⟨pn, rfl⟩ : ∃ pn : Nat, p = pn := ⟨p.toNat, by omega⟩
    obtain ⟨q, hq⟩ : ∃ q, trN misQ xs pn (2 ^ (xs.length - 1)) = q := ⟨_, rfl⟩
    have hqq : cfN misQ xs ((pn : Int) - 1).toNat 0 = q := by rw [← hq, tried_same hv (by omega)]; congr 1; omega
    have e1 : ptU xs pn = up q := by simp only [ptU, h2]; rw [if_pos trivial, hqq]
    have e2 : ptD xs pn = dn q := by simp only [ptD, h2]; rw [if_pos trivial, hqq]
    rw [h1] at CV
    rw [e1, e2, h2]
    have HV := Lib.hid hv
    obtain ⟨q0, hq0⟩ : ∃ q0, misQ xs = q0 := ⟨_, rfl⟩
    have CM := Lib.hid (fun w (h : RowI w b o xs) => pieceMiss_any b o c xs.length xs q0 w h rfl hv.n0 hv.n8 hv.x hq0)
    have CC := Lib.hid (fun p1 g2 w (h : RowI w b o xs) => hq ▸ hq0 ▸ cuts_any b o c p1 g2 pn xs w h hc hv (by omega))
    clear e1 e2 h1 h2 h3 hv hq hqq hq0
    go_enter Try.func8, Try.ntmps8
    go_wp2_with (first
      | (go_at_call 28; refine (CV.out _ (H.out.below (by (repeat' (first | (with_reducible exact Below.refl _ _) | (with_reducible assumption) | (with_reducible refine Below.drewN ?_ _) | (with_reducible refine Below.alloc ?_ ?_ _) | (with_reducible refine Below.drew ?_) | (with_reducible refine Below.setCell ?_ ?_ _) | (with_reducible refine Below.trans ?_ (Below.mono (by assumption) ?_)) | go_size | (with_reducible refine Nat.le_trans ?_ (Below.size (by assumption)))))))).mono ?_; rintro e w1 ⟨rfl, hb1⟩; have hz1 := hb1.size; simp only [World.size_alloc] at hz1; have kb := (((Blk.made (w.alloc (.cells #[.int .i64 pn] 3)) #[.int .i64 0, .int .i64 0] 27).below hb1)); rw [World.size_alloc] at kb; have kp := ((Blk.made w #[.int .i64 pn] 3).below below_alloc).below hb1; have B1 : Below w.heap.size w w1 := (below_alloc.alloc (by simp) _).trans (hb1.mono (by simp; omega)))
      | (go_at_call 29; refine (CM.out _ (H.out.below B1)).mono ?_; rintro e w2 ⟨rfl, hb2⟩; have hz2 := hb2.size))
    obtain ⟨g6, hg6⟩ : ∃ g6, w2.heap.size = g6 := ⟨_, rfl⟩
    have k6 : Blk (w2.alloc (.cells #[.int .i64 (up q0), .int .i64 (dn q0)] 27)) g6 27 (fc [q0]) := by rw [← hg6]; exact Blk.made w2 #[.int .i64 (up q0), .int .i64 (dn q0)] 27
    have b6 : Below w2.heap.size w2 (w2.alloc (.cells #[.int .i64 (up q0), .int .i64 (dn q0)] 27)) := below_alloc
    rw [hg6] at hz2 ⊢
    have B2 := Lib.hid (B1.trans (hb2.mono (by omega)))
    have KP := Lib.hid ((kp.below hb2).below b6)
    have KB := Lib.hid ((kb.below hb2).below b6)
    have B3 := Lib.hid (B2.out.trans (b6.mono (by omega)))
    obtain ⟨w3, hw3⟩ : ∃ w3, w2.alloc (.cells #[.int .i64 (up q0), .int .i64 (dn q0)] 27) = w3 := ⟨_, rfl⟩
    rw [hw3] at k6 KP KB B3 ⊢
    have hbs := hb
    clear hw3 b6 kp kb B1 hb1 hb2 hg6
    refine (CC.out w.heap.size g6 w3 (H.out.below B3.out) (KP.out.cell (j := 0) rfl) k6 (by omega) (by omega)).mono ?_
    rintro e w4 ⟨rfl, k7, g7⟩
    have z4 := g7.size
    obtain ⟨x1, x2⟩ := k7.one0
    have kb := KB.out.grown g7 (by omega)
    have k0 := kb.cell (j := 0) rfl
    have k1 := kb.cell (j := 1) rfl
    have f0 := kb.frozen 0
    have f1 := kb.frozen 1
    have l4 := kb.lt
    have y1 := (kb.set 0 (.int .i64 (up q))).cell (j := 0) rfl
    have y2 := ((kb.set 0 (.int .i64 (up q))).set 1 (.int .i64 (dn q))).cell (j := 1) rfl
    have B4 := Lib.hid (B3.out.grown g7 B3.out.size (fun k hk => by have := Option.some.inj hk; omega))
    clear k7 kb g7 k6
    go_wp2_with fail
    refine bodyPost_ret (v := .tuple #[.agg #[.int .i64 (up q), .int .i64 (dn q)], .bool true]) ?_ rfl ⟨rfl, ?_⟩
    · simp [results, Try.results8, go_sem, y1, y2]
    · exact (B4.out.setCell (Nat.le_succ _) _).setCell (Nat.le_succ _) _

end Go.Proofs.Ytfbccnameppikaa
