/- Cases: their test. -/
import Derived.Test.YtjkadlmlkcanpaaMarkP
namespace Go.Proofs.Ytjkadlmlkcanpaa
open Go.RowKit

set_option maxHeartbeats 1000000 in
theorem validCases_any (b o c b' o' c' : Nat) (xs ws : List Int) (w : World) (h : RowI w b o xs) (h' : RowI w b' o' ws) (hl : xs.length ≤ 1048576) (hl' : ws.length ≤ 1048576) :
    Calls Try.prog 55 #[.slice (some ⟨b, o, none⟩) xs.length c, .slice (some ⟨b', o', none⟩) ws.length c'] w fun e w' => e = .returned (.bool (vcB xs ws)) ∧ Below w.heap.size w w' := by
  have H := Lib.hid h
  have H' := Lib.hid h'
  clear h h'
  obtain ⟨t1, h1⟩ : ∃ t, decide ((0 : Int) < xs.length) = t := ⟨_, rfl⟩
  obtain ⟨t2, h2⟩ : ∃ t, vdB xs = t := ⟨_, rfl⟩
  obtain ⟨t3, h3⟩ : ∃ t, ((ws.length : Int) == xs.length) = t := ⟨_, rfl⟩
  obtain ⟨t4, h4⟩ : ∃ t, allB ws 0 1 = t := ⟨_, rfl⟩
  have e : vcB xs ws = (((t1 && t2) && t3) && t4) := by unfold vcB; rw [h1, h2, h3, h4]
  have g1 : decide (0 < xs.length) = t1 := by rw [← h1]; by_cases g : 0 < xs.length <;> simp [g] <;> omega
  have H2 := Lib.hid h2
  have H4 := Lib.hid h4
  rw [e]
  clear e h2 h4
  cases t1
  · go_enter Try.func55, Try.ntmps55
    go_wp2_with fail
    go_ret
    exact ⟨by simp, by (repeat' (first | (with_reducible exact Below.refl _ _) | (with_reducible assumption) | (with_reducible refine Below.drewN ?_ _) | (with_reducible refine Below.alloc ?_ ?_ _) | (with_reducible refine Below.drew ?_) | (with_reducible refine Below.setCell ?_ ?_ _) | (with_reducible refine Below.trans ?_ (Below.mono (by assumption) ?_)) | go_size | (with_reducible refine Nat.le_trans ?_ (Below.size (by assumption)))))⟩
  cases t2
  · go_enter Try.func55, Try.ntmps55
    go_wp2_with (go_at_call 80; refine (validData_any b o c xs _ (H.out.below (by (repeat' (first | (with_reducible exact Below.refl _ _) | (with_reducible assumption) | (with_reducible refine Below.drewN ?_ _) | (with_reducible refine Below.alloc ?_ ?_ _) | (with_reducible refine Below.drew ?_) | (with_reducible refine Below.setCell ?_ ?_ _) | (with_reducible refine Below.trans ?_ (Below.mono (by assumption) ?_)) | go_size | (with_reducible refine Nat.le_trans ?_ (Below.size (by assumption))))))) (by omega)).mono ?_; rintro e w1 ⟨rfl, hb1⟩; rw [H2.out])
    go_ret
    exact ⟨by simp, by (repeat' (first | (with_reducible exact Below.refl _ _) | (with_reducible assumption) | (with_reducible refine Below.drewN ?_ _) | (with_reducible refine Below.alloc ?_ ?_ _) | (with_reducible refine Below.drew ?_) | (with_reducible refine Below.setCell ?_ ?_ _) | (with_reducible refine Below.trans ?_ (Below.mono (by assumption) ?_)) | go_size | (with_reducible refine Nat.le_trans ?_ (Below.size (by assumption)))))⟩
  cases t3
  · go_enter Try.func55, Try.ntmps55
    go_wp2_with (go_at_call 80; refine (validData_any b o c xs _ (H.out.below (by (repeat' (first | (with_reducible exact Below.refl _ _) | (with_reducible assumption) | (with_reducible refine Below.drewN ?_ _) | (with_reducible refine Below.alloc ?_ ?_ _) | (with_reducible refine Below.drew ?_) | (with_reducible refine Below.setCell ?_ ?_ _) | (with_reducible refine Below.trans ?_ (Below.mono (by assumption) ?_)) | go_size | (with_reducible refine Nat.le_trans ?_ (Below.size (by assumption))))))) (by omega)).mono ?_; rintro e w1 ⟨rfl, hb1⟩; rw [H2.out])
    go_ret
    exact ⟨by simp, by (repeat' (first | (with_reducible exact Below.refl _ _) | (with_reducible assumption) | (with_reducible refine Below.drewN ?_ _) | (with_reducible refine Below.alloc ?_ ?_ _) | (with_reducible refine Below.drew ?_) | (with_reducible refine Below.setCell ?_ ?_ _) | (with_reducible refine Below.trans ?_ (Below.mono (by assumption) ?_)) | go_size | (with_reducible refine Nat.le_trans ?_ (Below.size (by assumption)))))⟩
  go_enter Try.func55, Try.ntmps55
  go_wp2_with (first
    | (go_at_call 80; refine (validData_any b o c xs _ (H.out.below (by (repeat' (first | (with_reducible exact Below.refl _ _) | (with_reducible assumption) | (with_reducible refine Below.drewN ?_ _) | (with_reducible refine Below.alloc ?_ ?_ _) | (with_reducible refine Below.drew ?_) | (with_reducible refine Below.setCell ?_ ?_ _) | (with_reducible refine Below.trans ?_ (Below.mono (by assumption) ?_)) | go_size | (with_reducible refine Nat.le_trans ?_ (Below.size (by assumption))))))) (by omega)).mono ?_; rintro e w1 ⟨rfl, hb1⟩; rw [H2.out])
    | (go_at_call 69; refine (allIn_any 0 1 b' o' c' ws _ (H'.out.below (by (repeat' (first | (with_reducible exact Below.refl _ _) | (with_reducible assumption) | (with_reducible refine Below.drewN ?_ _) | (with_reducible refine Below.alloc ?_ ?_ _) | (with_reducible refine Below.drew ?_) | (with_reducible refine Below.setCell ?_ ?_ _) | (with_reducible refine Below.trans ?_ (Below.mono (by assumption) ?_)) | go_size | (with_reducible refine Nat.le_trans ?_ (Below.size (by assumption))))))) (by omega)).mono ?_; rintro e w2 ⟨rfl, hb2⟩; rw [H4.out]))
  go_ret
  exact ⟨by simp, by (repeat' (first | (with_reducible exact Below.refl _ _) | (with_reducible assumption) | (with_reducible refine Below.drewN ?_ _) | (with_reducible refine Below.alloc ?_ ?_ _) | (with_reducible refine Below.drew ?_) | (with_reducible refine Below.setCell ?_ ?_ _) | (with_reducible refine Below.trans ?_ (Below.mono (by assumption) ?_)) | go_size | (with_reducible refine Nat.le_trans ?_ (Below.size (by assumption)))))⟩

set_option maxHeartbeats 1000000 in
theorem svalidCases_any (b o c b' o' c' : Nat) (xs ws : List Int) (w : World) (h : RowI w b o xs) (h' : RowI w b' o' ws) (hl : xs.length ≤ 1048576) (hl' : ws.length ≤ 1048576) :
    Calls Try.prog 52 #[.slice (some ⟨b, o, none⟩) xs.length c, .slice (some ⟨b', o', none⟩) ws.length c'] w fun e w' => e = .returned (.bool (vcB xs ws)) ∧ w = w' := by
  have H := Lib.hid h
  have H' := Lib.hid h'
  clear h h'
  go_enter Try.func52, Try.ntmps52
  go_wp2
  go_loop [5] (fun v5 => ∃ k : Nat, k ≤ ws.length ∧ v5 = .int .i64 k ∧ AllIn ws 0 1 k) (fun v5 => ws.length - (intOf v5).toNat)
  case atStart => exact ⟨0, Nat.zero_le _, rfl, fun k hk => absurd hk (Nat.not_lt_zero _)⟩
  case round =>
    obtain ⟨k, hk, rfl, hok⟩ := hrel
    have HO := Lib.hid hok
    clear hok
    by_cases hlt : k < ws.length
    · have c1 := H'.out.cell k hlt
      cases hin : inB (gi ws k) 0 1 with
      | true =>
        go_wp2_with (go_at_call 53; refine (inRange_any _ _ _ _).mono ?_; rintro e w1 ⟨rfl, rfl⟩)
        go_round
        case rel => exact ⟨k + 1, by omega, by go_num, fun j hj => by by_cases e : j = k; (· subst e; exact hin); exact HO.out j (by omega)⟩
        case measure => simp [intOf]; omega
      | false =>
        have hb := allB_false hlt hin
        have e : vcB xs ws = false := by simp [vcB, hb]
        have HB := Lib.hid e
        clear hb e
        go_wp2_with (go_at_call 53; refine (inRange_any _ _ _ _).mono ?_; rintro e w1 ⟨rfl, rfl⟩)
        go_ret
        exact ⟨by rw [HB.out]; rfl, rfl⟩
    · have hb : allB ws 0 1 = true := allB_iff.2 (by have : k = ws.length := by omega
                                                     rw [← this]; exact HO.out)
      obtain ⟨t1, h1⟩ : ∃ t, decide ((0 : Int) < xs.length) = t := ⟨_, rfl⟩
      obtain ⟨t2, h2⟩ : ∃ t, vdB xs = t := ⟨_, rfl⟩
      obtain ⟨t3, h3⟩ : ∃ t, ((ws.length : Int) == xs.length) = t := ⟨_, rfl⟩
      have e : vcB xs ws = ((t1 && t2) && t3) := by unfold vcB; rw [h1, h2, h3, hb, Bool.and_true]
      have h3' : ((xs.length : Int) == ws.length) = t3 := by rw [← h3]; exact Bool.beq_comm
      have g1 : decide (0 < xs.length) = t1 := by rw [← h1]; by_cases g : 0 < xs.length <;> simp [g] <;> omega
      have HB := Lib.hid e
      have H2 := Lib.hid h2
      clear hb e h2 h3
      cases t2
      · go_wp2_with (go_at_call 79; refine (svalidData_any b o c xs _ H.out (by omega)).mono ?_; rintro e w1 ⟨rfl, rfl⟩; rw [H2.out])
        go_ret
        exact ⟨by rw [HB.out]; first | (simp; done) | (simp; rfl), rfl⟩
      cases t3
      · go_wp2_with (go_at_call 79; refine (svalidData_any b o c xs _ H.out (by omega)).mono ?_; rintro e w1 ⟨rfl, rfl⟩; rw [H2.out])
        go_ret
        exact ⟨by rw [HB.out]; first | (simp; done) | (simp; rfl), rfl⟩
      go_wp2_with (go_at_call 79; refine (svalidData_any b o c xs _ H.out (by omega)).mono ?_; rintro e w1 ⟨rfl, rfl⟩; rw [H2.out])
      go_ret
      exact ⟨by rw [HB.out]; first | (simp; done) | (simp; rfl), rfl⟩

end Go.Proofs.Ytjkadlmlkcanpaa
