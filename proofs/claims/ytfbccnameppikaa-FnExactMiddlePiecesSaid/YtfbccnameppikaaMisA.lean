/- impl.pieceMiss. -/
import Derived.Test.YtfbccnameppikaaMisW
namespace Go.Proofs.Ytfbccnameppikaa
open Go.RowKit

set_option maxHeartbeats 1000000 in
theorem pieceMiss_any (b o c n : Nat) (l : List Int) (q : Rat) (w : World) (h : RowI w b o l) (hn : l.length = n) (h1 : 1 ≤ n) (h8 : n ≤ 8) (h30 : In30 l) (hq : misQ l = q) :
    Calls Try.prog 29 #[.slice (some ⟨b, o, none⟩) n c] w fun e w' => e = .returned (.agg #[.int .i64 (up q), .int .i64 (dn q)]) ∧ Below w.heap.size w w' := by
  have H := Lib.hid h
  have HN := Lib.hid hn
  have H3 := Lib.hid h30
  have b3 := suN_bd h30 0 n (by omega)
  have b4 := sqN_bd h30 0 n (by omega)
  have hqq : qd (sqN l 0 n * (n : Int) - suN l 0 n * suN l 0 n) n = q := by rw [← hq, misQ, hn]
  have CS := Lib.hid (fun w (h : RowI w b o l) => sum_any b o c n l w h hn h8 h30)
  obtain ⟨su, hsu⟩ : ∃ s, suN l 0 n = s := ⟨_, rfl⟩
  rw [hsu] at b3 hqq CS
  have b5 := mul_small (x := su) 240 (by omega)
  obtain ⟨ss, hss⟩ : ∃ s, su * su = s := ⟨_, rfl⟩
  rw [hss] at b5 hqq
  obtain ⟨sq, hsq⟩ : ∃ s, sqN l 0 n = s := ⟨_, rfl⟩
  rw [hsq] at b4 hqq
  have b6 : 0 ≤ sq * (n : Int) ∧ sq * (n : Int) ≤ 7200 * 8 := ⟨Int.mul_nonneg (by omega) (by omega), Int.mul_le_mul (by omega) (by omega) (by omega) (by omega)⟩
  have HSQ := Lib.hid hsq
  have HSS := Lib.hid hss
  clear h hn h30 hq hsq hsu hss
  have CF := Lib.hid (fun w => frac_as (sq * (n : Int) - ss) n q hqq w (by omega) (by omega) (by omega) (by omega) (by omega))
  clear hqq
  go_enter Try.func29, Try.ntmps29
  go_wp2
  go_loop [3, 8] (fun v3 v8 => ∃ k : Nat, k ≤ n ∧ v8 = .int .i64 k ∧ v3 = .int .i64 (sqN l 0 k)) (fun _ v8 => n - (intOf v8).toNat)
  case atStart => exact ⟨0, Nat.zero_le _, rfl, rfl⟩
  case round =>
    obtain ⟨k, hk, rfl, rfl⟩ := hrel
    have b1 := sqN_bd H3.out 0 k (by rw [HN.out]; omega)
    obtain ⟨s, hs⟩ : ∃ s, sqN l 0 k = s := ⟨_, rfl⟩
    rw [hs] at b1 ⊢
    have HS := Lib.hid hs
    clear hs
    by_cases hlt : k < n
    · have hkl : k < l.length := by rw [HN.out]; exact hlt
      have c1 := (H.out.below (show Below w.heap.size w (w.alloc (.cells #[.int .i64 0, .int .i64 0] 27)) from below_alloc)).cell k hkl
      have b2 := H3.out.at hkl
      obtain ⟨x, hx⟩ : ∃ x, gi l k = x := ⟨_, rfl⟩
      rw [hx] at c1 b2
      have b7 := mul30 b2
      have HST := Lib.hid (show sqN l 0 (k + 1) = s + x * x by rw [sqN, HS.out, Nat.zero_add, hx])
      have q1 : IntKind.i64.wrap (x * x) = x * x := IntWalk.i64_in _ (by omega)
      have q2 : IntKind.i64.wrap (s + x * x) = s + x * x := IntWalk.i64_in _ (by omega)
      clear hx hkl
      go_wp2
      go_round
      case rel => exact ⟨k + 1, by omega, by go_num, by rw [HST.out]⟩
      case measure => simp [intOf]; omega
    · have e : k = n := by omega
      have he : s = sq := by rw [← HS.out, e, HSQ.out]
      subst he
      clear e b1
      have hss := HSS.out
      have q1 : IntKind.i64.wrap (s * (n : Int)) = s * (n : Int) := IntWalk.i64_in _ (by omega)
      have q2 : IntKind.i64.wrap (su * su) = ss := by rw [hss]; exact IntWalk.i64_in _ (by omega)
      have q3 : IntKind.i64.wrap (s * (n : Int) - ss) = s * (n : Int) - ss := IntWalk.i64_in _ (by omega)
      clear hss
      go_wp2_with (first
        | (go_at_call 51; refine (CS.out _ (H.out.below (by (repeat' (first | (with_reducible exact Below.refl _ _) | (with_reducible assumption) | (with_reducible refine Below.drewN ?_ _) | (with_reducible refine Below.alloc ?_ ?_ _) | (with_reducible refine Below.drew ?_) | (with_reducible refine Below.setCell ?_ ?_ _) | (with_reducible refine Below.trans ?_ (Below.mono (by assumption) ?_)) | go_size | (with_reducible refine Nat.le_trans ?_ (Below.size (by assumption)))))))).mono ?_; rintro e w1 ⟨rfl, rfl⟩)
        | (go_at_call 50; refine (CF.out _).mono ?_; rintro e w2 ⟨rfl, hb2⟩; have hz2 := hb2.size; simp only [World.size_alloc] at hz2; obtain ⟨hc2, hf2⟩ := bcell hb2))
      have K := ((Blk.made w #[.int .i64 0, .int .i64 0] 27)).below hb2
      have y1 := (K.set 0 (.int .i64 (up q))).cell (j := 0) rfl
      have y2 := ((K.set 0 (.int .i64 (up q))).set 1 (.int .i64 (dn q))).cell (j := 1) rfl
      refine bodyPost_ret (v := .agg #[.int .i64 (up q), .int .i64 (dn q)]) ?_ rfl ⟨rfl, ?_⟩
      · simp [results, Try.results29, go_sem, y1, y2]
      · (repeat' (first | (with_reducible exact Below.refl _ _) | (with_reducible assumption) | (with_reducible refine Below.drewN ?_ _) | (with_reducible refine Below.alloc ?_ ?_ _) | (with_reducible refine Below.drew ?_) | (with_reducible refine Below.setCell ?_ ?_ _) | (with_reducible refine Below.trans ?_ (Below.mono (by assumption) ?_)) | go_size | (with_reducible refine Nat.le_trans ?_ (Below.size (by assumption)))))

end Go.Proofs.Ytfbccnameppikaa
