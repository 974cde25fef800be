/- impl.PiecesMiss. -/
import Derived.Test.YtfbccnameppikaaAtMostMiss
import Derived.Test.YtfbccnameppikaaCutF
namespace Go.Proofs.Ytfbccnameppikaa
open Go.RowKit

theorem at_same {xs : List Int} (hv : Rv xs) {p m : Nat} (hp : 1 ≤ p) (hm : m = min p xs.length) : atQ misQ xs m = cfN misQ xs (p - 1) 0 := by
  have n0 := hv.n0
  exact (atQ_least misQ (by omega) (by omega)).uniq ((cfN_least misQ xs (p - 1) 0 n0).congr fun n hn => by rw [List.drop_zero] at hn; omega)
theorem am_same {xs : List Int} (hv : Rv xs) (p : Nat) : amN misQ xs p xs.length = cfN misQ xs p 0 := by
  have h := amN_least misQ xs p xs.length hv.n0 (Nat.le_refl _)
  rw [List.take_length] at h
  exact h.uniq (cfN_least misQ xs p 0 hv.n0)

set_option maxHeartbeats 2000000 in
theorem piecesMiss_any (b o c : Nat) (xs : List Int) (p : Int) (w : World) (h : RowI w b o xs) (hm : xs.length ≤ 1099511627776) (hc : xs.length ≤ c) :
    Calls Try.prog 13 #[.slice (some ⟨b, o, none⟩) xs.length c, .int .i64 p] w
      fun e w' => e = .returned (.tuple #[.agg #[.int .i64 (ptU xs p), .int .i64 (ptD xs p)], .bool (rvB xs && inB p 1 8)]) ∧ Below w.heap.size w w' := by
  have H := Lib.hid h
  clear h
  have CV := Lib.hid (fun w (h : RowI w b o xs) => cutValid_any b o c xs p w h hm)
  cases h1 : cvB xs p with
  | false =>
    have h2 : (rvB xs && inB p 1 8) = false := h1
    have e1 : ptU xs p = 0 := by simp only [ptU, h2]; rfl
    have e2 : ptD xs p = 0 := by simp only [ptD, h2]; rfl
    rw [h1] at CV
    rw [e1, e2, h2]
    clear e1 e2 h1 h2
    go_enter Try.func13, Try.ntmps13
    go_wp2_with (go_at_call 28; refine (CV.out _ (H.out.below (by (repeat' (first | (with_reducible exact Below.refl _ _) | (with_reducible assumption) | (with_reducible refine Below.drewN ?_ _) | (with_reducible refine Below.alloc ?_ ?_ _) | (with_reducible refine Below.drew ?_) | (with_reducible refine Below.setCell ?_ ?_ _) | (with_reducible refine Below.trans ?_ (Below.mono (by assumption) ?_)) | go_size | (with_reducible refine Nat.le_trans ?_ (Below.size (by assumption)))))))).mono ?_; rintro e w1 ⟨rfl, hb1⟩; have kb := ((Blk.made w #[.int .i64 0, .int .i64 0] 27).below hb1); have k0 := kb.cell (j := 0) rfl; have k1 := kb.cell (j := 1) rfl; have f0 := kb.frozen 0; have f1 := kb.frozen 1; have l1 := kb.lt)
    have y1 := (kb.set 0 (.int .i64 0)).cell (j := 0) rfl
    have y2 := ((kb.set 0 (.int .i64 0)).set 1 (.int .i64 0)).cell (j := 1) rfl
    refine bodyPost_ret (v := .tuple #[.agg #[.int .i64 0, .int .i64 0], .bool false]) ?_ rfl ⟨rfl, ?_⟩
    · simp [results, Try.results13, go_sem, y1, y2]
    · exact ((below_alloc.trans (hb1.mono (by simp))).setCell (Nat.le_refl _) _).setCell (Nat.le_refl _) _
  | true =>
    have h2 : (rvB xs && inB p 1 8) = true := h1
    have h3 := h2
    rw [Bool.and_eq_true] at h3
    have hv := rv_of h3.1
    have hp := inB_iff.1 h3.2
    obtain ⟨pn, rfl⟩ : ∃ pn : Nat, p = pn := ⟨p.toNat, by omega⟩
    obtain ⟨m, hm⟩ : ∃ m, min pn xs.length = m := ⟨_, rfl⟩
    obtain ⟨q, hq⟩ : ∃ q, atQ misQ xs m = q := ⟨_, rfl⟩
    have hqq : cfN misQ xs ((pn : Int) - 1).toNat 0 = q := by rw [← hq, at_same hv (p := pn) (by omega) hm.symm]; congr 1; omega
    have e1 : ptU xs pn = up q := by simp only [ptU, h2]; rw [if_pos trivial, hqq]
    have e2 : ptD xs pn = dn q := by simp only [ptD, h2]; rw [if_pos trivial, hqq]
    rw [h1] at CV
    rw [e1, e2, h2]
    have CA := Lib.hid (fun w (h : RowI w b o xs) => atMostMiss_any b o c m pn xs w h hc hv (by omega) (by omega) q hq)
    clear e1 e2 h1 h2 h3 hv hq hqq hm
    go_enter Try.func13, Try.ntmps13
    go_wp2_with (first
      | (go_at_call 28; refine (CV.out _ (H.out.below (by (repeat' (first | (with_reducible exact Below.refl _ _) | (with_reducible assumption) | (with_reducible refine Below.drewN ?_ _) | (with_reducible refine Below.alloc ?_ ?_ _) | (with_reducible refine Below.drew ?_) | (with_reducible refine Below.setCell ?_ ?_ _) | (with_reducible refine Below.trans ?_ (Below.mono (by assumption) ?_)) | go_size | (with_reducible refine Nat.le_trans ?_ (Below.size (by assumption)))))))).mono ?_; rintro e w1 ⟨rfl, hb1⟩; have hz1 := hb1.size; simp only [World.size_alloc] at hz1; have kb := ((Blk.made w #[.int .i64 0, .int .i64 0] 27).below hb1); have B1 : Below w.heap.size w w1 := below_alloc.trans (hb1.mono (by simp)))
      | (go_at_call 38; refine (CA.out _ (H.out.below B1)).mono ?_; rintro e w2 ⟨rfl, hb2⟩; have hz2 := hb2.size; have kb := kb.below hb2; have k0 := kb.cell (j := 0) rfl; have k1 := kb.cell (j := 1) rfl; have f0 := kb.frozen 0; have f1 := kb.frozen 1))
    have y1 := (kb.set 0 (.int .i64 (up q))).cell (j := 0) rfl
    have y2 := ((kb.set 0 (.int .i64 (up q))).set 1 (.int .i64 (dn q))).cell (j := 1) rfl
    refine bodyPost_ret (v := .tuple #[.agg #[.int .i64 (up q), .int .i64 (dn q)], .bool true]) ?_ rfl ⟨rfl, ?_⟩
    · simp [results, Try.results13, go_sem, y1, y2]
    · exact ((B1.trans (hb2.mono B1.size)).setCell (Nat.le_refl _) _).setCell (Nat.le_refl _) _

end Go.Proofs.Ytfbccnameppikaa
