/- spec.miss. -/
import Derived.Test.YtfbccnameppikaaMisW
namespace Go.Proofs.Ytfbccnameppikaa
open Go.RowKit

set_option maxHeartbeats 2000000 in
theorem smiss_any (b o c i k : Nat) (xs : List Int) (q : Rat) (w : World) (h : RowI w b o xs) (hik : i < k) (hk : k ≤ xs.length) (h8 : xs.length ≤ 8) (h30 : In30 xs) (hq : misQ (pc xs i k) = q) :
    Calls Try.prog 54 #[.slice (some ⟨b, o, none⟩) xs.length c, .int .i64 i, .int .i64 k] w fun e w' => e = .returned (.agg #[.int .i64 (up q), .int .i64 (dn q)]) ∧ Below w.heap.size w w' := by
  rw [misQ_pc (by omega) hk] at hq
  obtain ⟨n, hn⟩ : ∃ n, k - i = n := ⟨_, rfl⟩
  have k1 : i + n ≤ k := by omega
  have k2 : k ≤ i + n := by omega
  rw [hn] at hq
  have H := Lib.hid h
  have H3 := Lib.hid h30
  have b3 := suN_bd h30 i n (by omega)
  have b4 := sqN_bd h30 i n (by omega)
  obtain ⟨su, hsu⟩ : ∃ s, suN xs i n = s := ⟨_, rfl⟩
  rw [hsu] at b3 hq
  have b5 := mul_small (x := su) 240 (by omega)
  obtain ⟨ss, hss⟩ : ∃ s, su * su = s := ⟨_, rfl⟩
  rw [hss] at b5 hq
  obtain ⟨sq, hsq⟩ : ∃ s, sqN xs i n = s := ⟨_, rfl⟩
  rw [hsq] at b4 hq
  have b6 : 0 ≤ (n : Int) * sq ∧ (n : Int) * sq ≤ 8 * 7200 := ⟨Int.mul_nonneg (by omega) (by omega), Int.mul_le_mul (by omega) (by omega) (by omega) (by omega)⟩
  have HSQ := Lib.hid hsq
  have HSS := Lib.hid hss
  have HSU := Lib.hid hsu
  rw [Int.mul_comm sq] at hq
  have CF := Lib.hid (fun w => sfrac_as ((n : Int) * sq - ss) n q hq w (by omega) (by omega) (by omega) (by omega) (by omega))
  clear h h30 hq hsq hsu hss hn
  have hkk : (k : Int) - (i : Int) = (n : Int) := by omega
  go_enter Try.func54, Try.ntmps54
  go_wp2
  go_loopw [8, 9, 10] (fun v8 v9 v10 wr => ∃ d : Nat, d ≤ n ∧ v10 = .int .i64 ((i + d : Nat) : Int) ∧ v8 = .int .i64 (suN xs i d) ∧ v9 = .int .i64 (sqN xs i d) ∧ Blk wr w.heap.size 27 [.int .i64 0, .int .i64 0] ∧ Below w.heap.size w wr) (fun _ _ v10 _ => k - (intOf v10).toNat)
  case atStart => exact ⟨0, Nat.zero_le _, rfl, rfl, rfl, Blk.made w #[.int .i64 0, .int .i64 0] 27, below_alloc⟩
  case round =>
    obtain ⟨d, hd, rfl, rfl, rfl, hkb, hbw⟩ := hrel
    have HKB := Lib.hid hkb
    have hlk := hkb.lt
    have kf0 := hkb.frozen 0
    have kf1 := hkb.frozen 1
    have kc0 := hkb.cell (j := 0) rfl
    have kc1 := hkb.cell (j := 1) rfl
    clear hkb
    have b1 := sqN_bd H3.out i d (by omega)
    have b2 := suN_bd H3.out i d (by omega)
    obtain ⟨s, hs⟩ : ∃ s, sqN xs i d = s := ⟨_, rfl⟩
    obtain ⟨t, ht⟩ : ∃ s, suN xs i d = s := ⟨_, rfl⟩
    rw [hs] at b1 ⊢
    rw [ht] at b2 ⊢
    have HS := Lib.hid hs
    have HT := Lib.hid ht
    clear hs ht
    by_cases hlt : d < n
    · have hkl : i + d < xs.length := by omega
      have c1 := (H.out.below hbw).cell (i + d) hkl
      have b7 := H3.out.at hkl
      obtain ⟨x, hx⟩ : ∃ x, gi xs (i + d) = x := ⟨_, rfl⟩
      rw [hx] at c1 b7
      have b8 := mul30 b7
      have HST := Lib.hid (show sqN xs i (d + 1) = s + x * x by rw [sqN, HS.out, hx])
      have HTT := Lib.hid (show suN xs i (d + 1) = t + x by rw [suN, HT.out, hx])
      have q1 : IntKind.i64.wrap (x * x) = x * x := IntWalk.i64_in _ (by omega)
      have q2 : IntKind.i64.wrap (s + x * x) = s + x * x := IntWalk.i64_in _ (by omega)
      obtain ⟨j, hj⟩ : ∃ j, i + d = j := ⟨_, rfl⟩
      have hjl : j < k := by omega
      rw [hj] at c1 hkl ⊢
      have HJ := Lib.hid hj
      clear hx hj
      go_wp2
      go_quiet (fail)
      go_wp2
      go_roundw
      case rel => have := HJ.out; exact ⟨d + 1, by omega, by rw [← this]; go_num, by rw [HTT.out], by rw [HST.out], HKB.out.below (Below.drewN (Below.refl _ _) _), Below.drewN hbw _⟩
      case measure => simp [intOf]; omega
    · have e : d = n := by omega
      have he : s = sq := by rw [← HS.out, e, HSQ.out]
      have he2 : t = su := by rw [← HT.out, e, HSU.out]
      subst he he2
      clear b1 b2
      have hj : ¬ i + d < k := by omega
      have hss := HSS.out
      have q1 : IntKind.i64.wrap ((n : Int) * s) = (n : Int) * s := IntWalk.i64_in _ (by omega)
      have q2 : IntKind.i64.wrap (t * t) = ss := by rw [hss]; exact IntWalk.i64_in _ (by omega)
      have q3 : IntKind.i64.wrap ((n : Int) * s - ss) = (n : Int) * s - ss := IntWalk.i64_in _ (by omega)
      clear hss e
      go_wp2_with (go_at_call 44; refine (CF.out _).mono ?_; rintro e w2 ⟨rfl, hb2⟩; have hz2 := hb2.size; obtain ⟨hc2, hf2⟩ := bcell hb2)
      have K := HKB.out.below hb2
      have y1 := (K.set 0 (.int .i64 (up q))).cell (j := 0) rfl
      have y2 := ((K.set 0 (.int .i64 (up q))).set 1 (.int .i64 (dn q))).cell (j := 1) rfl
      refine bodyPost_ret (v := .agg #[.int .i64 (up q), .int .i64 (dn q)]) ?_ rfl ⟨rfl, ?_⟩
      · simp [results, Try.results54, go_sem, y1, y2]
      · exact (((hbw.trans (hb2.mono hbw.size)).setCell (Nat.le_refl _) _).setCell (Nat.le_refl _) _)

end Go.Proofs.Ytfbccnameppikaa
