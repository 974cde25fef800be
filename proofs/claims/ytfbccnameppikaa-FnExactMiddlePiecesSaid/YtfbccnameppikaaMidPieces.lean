/- impl.MiddlePieces. -/
import Derived.Test.YtfbccnameppikaaAtMostMid
namespace Go.Proofs.Ytfbccnameppikaa
open Go.RowKit

/-- What MiddlePieces returns. -/
def mpV (xs : List Int) (p : Int) : Int := if rvB xs && inB p 1 8 then up (amN fmQ xs (p - 1).toNat xs.length) else -1
theorem at_am {c : List Int → Rat} {xs : List Int} (hv : Rv xs) {p m : Nat} (hp : 1 ≤ p) (hm : m = min p xs.length) : atQ c xs m = amN c xs (p - 1) xs.length := by
  have n0 := hv.n0
  have h := amN_least c xs (p - 1) xs.length n0 (Nat.le_refl _)
  rw [List.take_length] at h
  exact (atQ_least c (by omega) (by omega)).uniq (h.congr fun n hn => by omega)

set_option maxHeartbeats 2000000 in
theorem middlePieces_any (b o c : Nat) (xs : List Int) (p : Int) (w : World) (h : RowI w b o xs) (hm : xs.length ≤ 1099511627776) (hc : xs.length ≤ c) :
    Calls Try.prog 23 #[.slice (some ⟨b, o, none⟩) xs.length c, .int .i64 p] w fun e w' => e = .returned (.int .i64 (mpV xs p)) ∧ Below w.heap.size w w' := by
  have H := Lib.hid h
  clear h
  have CV := Lib.hid (fun w (h : RowI w b o xs) => cutValid_any b o c xs p w h hm)
  cases h1 : cvB xs p with
  | false =>
    have h2 : (rvB xs && inB p 1 8) = false := h1
    have e1 : mpV xs p = -1 := by simp only [mpV, h2]; rfl
    rw [h1] at CV
    rw [e1]
    clear e1 h1 h2
    go_enter Try.func23, Try.ntmps23
    go_wp2_with (go_at_call 28; refine (CV.out _ (H.out.below (by (repeat' (first | (with_reducible exact Below.refl _ _) | (with_reducible assumption) | (with_reducible refine Below.drewN ?_ _) | (with_reducible refine Below.alloc ?_ ?_ _) | (with_reducible refine Below.drew ?_) | (with_reducible refine Below.setCell ?_ ?_ _) | (with_reducible refine Below.trans ?_ (Below.mono (by assumption) ?_)) | go_size | (with_reducible refine Nat.le_trans ?_ (Below.size (by assumption)))))))).mono ?_; rintro e w1 ⟨rfl, hb1⟩)
    go_ret
    exact ⟨rfl, hb1⟩
  | true =>
    have h2 : (rvB xs && inB p 1 8) = true := h1
    have h3 := h2
    rw [Bool.and_eq_true] at h3
    have hv := rv_of h3.1
    have hp := inB_iff.1 h3.2
    obtain ⟨pn, rfl⟩ : ∃ pn : Nat, p = pn := ⟨p.toNat, by omega⟩
    obtain ⟨m, hm⟩ : ∃ m, min pn xs.length = m := ⟨_, rfl⟩
    obtain ⟨q, hq⟩ : ∃ q, atQ fmQ xs m = q := ⟨_, rfl⟩
    have e1 : mpV xs pn = up q := by
      simp only [mpV, h2]
      rw [if_pos trivial, show ((pn : Int) - 1).toNat = pn - 1 by omega, ← at_am hv (p := pn) (by omega) hm.symm, hq]
    rw [h1] at CV
    rw [e1]
    have CA := Lib.hid (fun w (h : RowI w b o xs) => atMostMid_any b o c m pn xs w h hc hv (by omega) (by omega) q hq)
    clear e1 h1 h2 h3 hv hq hm
    have fdd := fun w => fd0 (.int .i64 (up q)) (.int .i64 (dn q)) w
    go_enter Try.func23, Try.ntmps23
    go_wp2_with (first
      | (go_at_call 28; refine (CV.out _ (H.out.below (by (repeat' (first | (with_reducible exact Below.refl _ _) | (with_reducible assumption) | (with_reducible refine Below.drewN ?_ _) | (with_reducible refine Below.alloc ?_ ?_ _) | (with_reducible refine Below.drew ?_) | (with_reducible refine Below.setCell ?_ ?_ _) | (with_reducible refine Below.trans ?_ (Below.mono (by assumption) ?_)) | go_size | (with_reducible refine Nat.le_trans ?_ (Below.size (by assumption)))))))).mono ?_; rintro e w1 ⟨rfl, hb1⟩; have hz1 := hb1.size)
      | (go_at_call 38; refine (CA.out _ (H.out.below hb1)).mono ?_; rintro e w2 ⟨rfl, hb2⟩; have hz2 := hb2.size))
    go_ret
    exact ⟨rfl, hb1.trans (hb2.mono hz1)⟩

end Go.Proofs.Ytfbccnameppikaa
