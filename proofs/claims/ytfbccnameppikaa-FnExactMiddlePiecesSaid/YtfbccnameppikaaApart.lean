/- spec.apartOf. -/
import Derived.Test.YtfbccnameppikaaFmP
import Derived.Test.YtfbccnameppikaaMisB
namespace Go.Proofs.Ytfbccnameppikaa
open Go.RowKit

set_option maxHeartbeats 2000000 in
theorem apartOf_any (b o c i k : Nat) (xs : List Int) (v : Int) (w : World) (h : RowI w b o xs) (hik : i < k) (hk : k ≤ xs.length) (hc : xs.length ≤ c) (h8 : xs.length ≤ 8) (h30 : In30 xs) (hv : fmI (pc xs i k) = v) :
    Calls Try.prog 47 #[.slice (some ⟨b, o, none⟩) xs.length c, .int .i64 i, .int .i64 k] w fun e w' => e = .returned (.int .i64 v) ∧ Below w.heap.size w w' := by
  have hl := pc_length (a := i) hk
  obtain ⟨n, hn⟩ : ∃ n, k - i = n := ⟨_, rfl⟩
  have CS := ssorted_any b (o + i) (c - i) (pc xs i k) w (h.pc (by omega) hk) (by omega)
  have hf : fmI (pc xs i k) = faN (srt (pc xs i k)) (gi (srt (pc xs i k)) ((pc xs i k).length / 2)) (pc xs i k).length := rfl
  have SB := Lib.hid (fun j (hj : j < n) => srt30 (h30.pc i k) (k := j) (by omega))
  have hs := srt_length (pc xs i k)
  rw [hl, hn] at CS hf hs
  rw [hv] at hf
  obtain ⟨s, hsr⟩ : ∃ s, srt (pc xs i k) = s := ⟨_, rfl⟩
  rw [hsr] at hs CS hf SB
  obtain ⟨j, hj⟩ : ∃ j, n / 2 = j := ⟨_, rfl⟩
  have hjn : j < n := by omega
  have q2 : (n : Int).tdiv 2 = (j : Int) := by rw [Int.tdiv_eq_ediv_of_nonneg (by omega)]; omega
  have q5 : IntKind.i64.wrap (j : Int) = (j : Int) := IntWalk.i64_in _ (by omega)
  have q7 : (j : Int) < (n : Int) := by omega
  have q8 : (n : Int) / 2 = (j : Int) := by omega
  rw [hj] at hf
  have SJ := SB.out j hjn
  obtain ⟨y, hy⟩ : ∃ y, gi s j = y := ⟨_, rfl⟩
  rw [hy] at hf SJ
  have HY := Lib.hid hy
  have HF := Lib.hid hf
  have HS := Lib.hid hs
  have FB := Lib.hid (fun d (hd : d ≤ n) => faN_bd (s := s) SJ d fun k hk => SB.out k (by omega))
  have CS := Lib.hid CS
  have hic : ¬ c = i := by omega
  have hkc : k ≤ c := by omega
  have hn8 : n ≤ 8 := by omega
  have hni : k - i = n := hn
  have HNI := Lib.hid hni
  clear h h30 hs hsr hf hy hj hl hv hn hni
  go_enter Try.func47, Try.ntmps47
  go_wp2_with (go_at_call 59; rw [HNI.out]; (with_reducible refine CS.out.mono ?_); rintro e w1 ⟨g, cap, rfl, hg, r1, hb1⟩; have R := Lib.hid r1; have c2 := r1.cell j (by rw [HS.out]; exact hjn); rw [Nat.zero_add, HY.out] at c2; have B1 := Lib.hid hb1; clear r1 hb1)
  go_loopw [9, 10] (fun v9 v10 wr => ∃ d : Nat, v10 = .int .i64 d ∧ d ≤ n ∧ v9 = .int .i64 (faN s y d) ∧ ∃ nq, wr = w1.drewN nq) (fun _ v10 _ => n - (intOf v10).toNat)
  case atStart => exact ⟨0, rfl, Nat.zero_le _, rfl, 0, rfl⟩
  case round =>
    obtain ⟨d, rfl, hd, rfl, nq, rfl⟩ := hrel
    have fb := FB.out d hd
    have hst : faN s y (d + 1) = faN s y d + max (gi s d - y) (y - gi s d) := rfl
    obtain ⟨f, hf⟩ : ∃ f, faN s y d = f := ⟨_, rfl⟩
    rw [hf] at fb hst ⊢
    by_cases hlt : d < n
    · have c1 := R.out.cell d (by rw [HS.out]; exact hlt)
      rw [Nat.zero_add] at c1
      have sb := SB.out d hlt
      obtain ⟨x, hx⟩ : ∃ x, gi s d = x := ⟨_, rfl⟩
      rw [hx] at c1 sb hst
      have p1 : IntKind.i64.wrap (x - y) = x - y := IntWalk.i64_in _ (by omega)
      have p2 : IntKind.i64.wrap (y - x) = y - x := IntWalk.i64_in _ (by omega)
      obtain ⟨r, hr⟩ : ∃ r, max (x - y) (y - x) = r := ⟨_, rfl⟩
      have hr3 : 0 ≤ r ∧ r ≤ 60 := by omega
      have p4 : IntKind.i64.wrap (f + r) = f + r := IntWalk.i64_in _ (by omega)
      rw [hr] at hst
      have HST := Lib.hid hst
      have HR := Lib.hid hr
      clear hst hx hf
      go_wp2_with fail
      go_quiet (fail)
      go_wp2_with fail
      go_roundw
      case rel => exact ⟨d + 1, by go_num, by omega, by rw [HST.out], _, rfl⟩
      case measure => simp [intOf]; omega
    · have hdn : d = n := by omega
      rw [hdn] at hf
      have HFN := Lib.hid (show f = v by rw [← hf, HF.out])
      clear hf hst hdn
      go_wp2_with fail
      go_ret
      exact ⟨by rw [← HFN.out]; rfl, Below.drewN B1.out _⟩

end Go.Proofs.Ytfbccnameppikaa
