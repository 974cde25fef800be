/- Small functions of tables: sums, products. -/
import Derived.Test.YtpcnjkgoehepaaaSevF
import Derived.Test.YtpcnjkgoehepaaaTabP
namespace Go.Proofs.Ytpcnjkgoehepaaa
open Go.RowKit

theorem fct_le {n : Nat} (h : n ≤ 18) : fct n ≤ 6402373705728000 := by
  have : ∀ n, n < 19 → fct n ≤ 6402373705728000 := by decide
  exact this n (by omega)

set_option maxHeartbeats 1000000 in
theorem ssum_s (b o c : Nat) (xs : List Int) (w : World) (h : RowI w b o xs) (hl : xs.length ≤ 1000) (hx : ∀ i, i < xs.length → -1000 ≤ gi xs i ∧ gi xs i ≤ 1000) :
    Calls Try.prog 24 #[.slice (some ⟨b, o, none⟩) xs.length c] w fun e w' => e = .returned (.int .i64 (sX (gi xs) xs.length)) ∧ w = w' := by
  have H := Lib.hid h
  have HI := Lib.hid (fun (k : Nat) (hk : k ≤ xs.length) => sX_abs (g := gi xs) k fun i hi => hx i (by omega))
  have HX := Lib.hid hx
  clear h hx
  go_enter Try.func24, Try.ntmps24
  go_wp2_with fail
  go_loop [3, 4] (fun v3 v4 => ∃ k : Nat, v4 = .int .i64 (k : Int) ∧ k ≤ xs.length ∧ v3 = .int .i64 (sX (gi xs) k)) (fun _ v4 => xs.length - (intOf v4).toNat)
  case atStart => exact ⟨0, rfl, by omega, rfl⟩
  case round =>
    obtain ⟨k, rfl, hk, rfl⟩ := hrel
    by_cases hlt : k < xs.length
    · have y1 := H.out.cell k hlt
      have i1 := HI.out k hk
      have i2 := HX.out k hlt
      have s1 : sX (gi xs) (k + 1) = sX (gi xs) k + gi xs k := rfl
      obtain ⟨x, hx⟩ : ∃ x, gi xs k = x := ⟨_, rfl⟩
      obtain ⟨m, hm⟩ : ∃ m, sX (gi xs) k = m := ⟨_, rfl⟩
      rw [hx] at y1 s1 i2
      rw [hm] at s1 i1 ⊢
      have S1 := Lib.hid s1
      have q1 : IntKind.i64.wrap (m + x) = m + x := IntWalk.i64_in _ (by omega)
      clear s1 hx hm
      go_wp2_with fail
      go_round
      case rel => exact ⟨k + 1, by go_num, by omega, by rw [S1.out]⟩
      case measure => simp [intOf]; omega
    · have e : k = xs.length := by omega
      subst e
      go_wp2_with fail
      go_ret
      exact ⟨rfl, rfl⟩

set_option maxHeartbeats 1000000 in
theorem isum_s (b o c : Nat) (xs : List Int) (w : World) (h : RowI w b o xs) (hl : xs.length ≤ 1000) (hx : ∀ i, i < xs.length → -1000 ≤ gi xs i ∧ gi xs i ≤ 1000) :
    Calls Try.prog 27 #[.slice (some ⟨b, o, none⟩) xs.length c] w fun e w' => e = .returned (.int .i64 (sX (gi xs) xs.length)) ∧ w = w' := by
  have H := Lib.hid h
  have HI := Lib.hid (fun (k : Nat) (hk : k ≤ xs.length) => sX_abs (g := gi xs) k fun i hi => hx i (by omega))
  have HX := Lib.hid hx
  clear h hx
  go_enter Try.func27, Try.ntmps27
  go_wp2_with fail
  go_loop [3, 8] (fun v3 v4 => ∃ k : Nat, v4 = .int .i64 (k : Int) ∧ k ≤ xs.length ∧ v3 = .int .i64 (sX (gi xs) k)) (fun _ v4 => xs.length - (intOf v4).toNat)
  case atStart => exact ⟨0, rfl, by omega, rfl⟩
  case round =>
    obtain ⟨k, rfl, hk, rfl⟩ := hrel
    by_cases hlt : k < xs.length
    · have y1 := H.out.cell k hlt
      have i1 := HI.out k hk
      have i2 := HX.out k hlt
      have s1 : sX (gi xs) (k + 1) = sX (gi xs) k + gi xs k := rfl
      obtain ⟨x, hx⟩ : ∃ x, gi xs k = x := ⟨_, rfl⟩
      obtain ⟨m, hm⟩ : ∃ m, sX (gi xs) k = m := ⟨_, rfl⟩
      rw [hx] at y1 s1 i2
      rw [hm] at s1 i1 ⊢
      have S1 := Lib.hid s1
      have q1 : IntKind.i64.wrap (m + x) = m + x := IntWalk.i64_in _ (by omega)
      clear s1 hx hm
      go_wp2_with fail
      go_round
      case rel => exact ⟨k + 1, by go_num, by omega, by rw [S1.out]⟩
      case measure => simp [intOf]; omega
    · have e : k = xs.length := by omega
      subst e
      go_wp2_with fail
      go_ret
      exact ⟨rfl, rfl⟩

set_option maxHeartbeats 1000000 in
theorem product_any (n : Nat) (w : World) (hn : n ≤ 18) :
    Calls Try.prog 9 #[.int .i64 n] w fun e w' => e = .returned (.int .i64 (fct n : Nat)) ∧ w = w' := by
  go_enter Try.func9, Try.ntmps9
  go_wp2_with fail
  go_loop [3, 4] (fun v3 v4 => ∃ k : Nat, v4 = .int .i64 ((k + 2 : Nat) : Int) ∧ (k ≤ n ∧ (k = 0 ∨ k + 1 ≤ n)) ∧ v3 = .int .i64 (fct (k + 1) : Nat)) (fun _ v4 => n + 2 - (intOf v4).toNat)
  case atStart => exact ⟨0, rfl, ⟨by omega, .inl rfl⟩, by simp [fct]⟩
  case round =>
    obtain ⟨k, rfl, ⟨hk, hk2⟩, rfl⟩ := hrel
    by_cases hlt : k + 2 ≤ n
    · have b1 := fct_le (show k + 2 ≤ 18 by omega)
      have s1 : fct (k + 1 + 1) = fct (k + 1) * (k + 1 + 1) := rfl
      obtain ⟨m, hm⟩ : ∃ m, fct (k + 1) = m := ⟨_, rfl⟩
      obtain ⟨m2, hm2⟩ : ∃ m2, fct (k + 1 + 1) = m2 := ⟨_, rfl⟩
      obtain ⟨d, hd⟩ : ∃ d, k + 2 = d := ⟨_, rfl⟩
      have HM2 := Lib.hid hm2
      have HD := Lib.hid hd
      rw [show k + 1 + 1 = k + 2 by omega] at hm2 s1
      rw [hm2] at b1
      rw [hm2, hm, hd] at s1
      rw [hm, hd]
      have q1 : IntKind.i64.wrap ((m : Int) * (d : Int)) = (m2 : Int) := by rw [s1, Int.natCast_mul]; exact IntWalk.i64_in _ (by rw [← Int.natCast_mul, ← s1]; omega)
      have d2 : (d : Int) ≤ (n : Int) := by omega
      have d3 : d ≤ 18 := by omega
      clear hm hm2 s1 hd
      go_wp2_with fail
      go_round
      case rel => exact ⟨k + 1, by have := HD.out; rw [← this]; go_num, ⟨by omega, .inr (by omega)⟩, by rw [HM2.out]⟩
      case measure => have := HD.out; simp [intOf]; omega
    · have e : fct (k + 1) = fct n := by
        rcases hk2 with rfl | h
        · have : n = 0 ∨ n = 1 := by omega
          rcases this with rfl | rfl <;> rfl
        · rw [show k + 1 = n by omega]
      rw [e]
      obtain ⟨d, hd⟩ : ∃ d, k + 2 = d := ⟨_, rfl⟩
      rw [hd]
      have d2 : ¬ (d : Int) ≤ (n : Int) := by omega
      have d3 : (d : Int) ≤ 30 := by omega
      clear hd e
      go_wp2_with fail
      go_ret
      exact ⟨rfl, rfl⟩

set_option maxHeartbeats 1000000 in
theorem sfactorial_any (n : Nat) (w : World) (hn : n ≤ 18) :
    Calls Try.prog 45 #[.int .i64 n] w fun e w' => e = .returned (.int .i64 (fct n : Nat)) ∧ w = w' := by
  go_enter Try.func45, Try.ntmps45
  go_wp2_with fail
  go_loop [3, 4] (fun v3 v4 => ∃ k : Nat, v4 = .int .i64 ((k + 2 : Nat) : Int) ∧ (k ≤ n ∧ (k = 0 ∨ k + 1 ≤ n)) ∧ v3 = .int .i64 (fct (k + 1) : Nat)) (fun _ v4 => n + 2 - (intOf v4).toNat)
  case atStart => exact ⟨0, rfl, ⟨by omega, .inl rfl⟩, by simp [fct]⟩
  case round =>
    obtain ⟨k, rfl, ⟨hk, hk2⟩, rfl⟩ := hrel
    by_cases hlt : k + 2 ≤ n
    · have b1 := fct_le (show k + 2 ≤ 18 by omega)
      have s1 : fct (k + 1 + 1) = fct (k + 1) * (k + 1 + 1) := rfl
      obtain ⟨m, hm⟩ : ∃ m, fct (k + 1) = m := ⟨_, rfl⟩
      obtain ⟨m2, hm2⟩ : ∃ m2, fct (k + 1 + 1) = m2 := ⟨_, rfl⟩
      obtain ⟨d, hd⟩ : ∃ d, k + 2 = d := ⟨_, rfl⟩
      have HM2 := Lib.hid hm2
      have HD := Lib.hid hd
      rw [show k + 1 + 1 = k + 2 by omega] at hm2 s1
      rw [hm2] at b1
      rw [hm2, hm, hd] at s1
      rw [hm, hd]
      have q1 : IntKind.i64.wrap ((m : Int) * (d : Int)) = (m2 : Int) := by rw [s1, Int.natCast_mul]; exact IntWalk.i64_in _ (by rw [← Int.natCast_mul, ← s1]; omega)
      have d2 : (d : Int) ≤ (n : Int) := by omega
      have d3 : d ≤ 18 := by omega
      clear hm hm2 s1 hd
      go_wp2_with fail
      go_round
      case rel => exact ⟨k + 1, by have := HD.out; rw [← this]; go_num, ⟨by omega, .inr (by omega)⟩, by rw [HM2.out]⟩
      case measure => have := HD.out; simp [intOf]; omega
    · have e : fct (k + 1) = fct n := by
        rcases hk2 with rfl | h
        · have : n = 0 ∨ n = 1 := by omega
          rcases this with rfl | rfl <;> rfl
        · rw [show k + 1 = n by omega]
      rw [e]
      obtain ⟨d, hd⟩ : ∃ d, k + 2 = d := ⟨_, rfl⟩
      rw [hd]
      have d2 : ¬ (d : Int) ≤ (n : Int) := by omega
      have d3 : (d : Int) ≤ 30 := by omega
      clear hd e
      go_wp2_with fail
      go_ret
      exact ⟨rfl, rfl⟩

set_option maxHeartbeats 1000000 in
theorem ifactorial_any : ∀ (n : Nat), n ≤ 18 → ∀ w : World, Calls Try.prog 43 #[.int .i64 n] w fun e w' => e = .returned (.int .i64 (fct n : Nat)) ∧ w = w'
  | 0, _, w => by
    go_enter Try.func43, Try.ntmps43
    go_wp2_with fail
    go_ret
    exact ⟨rfl, rfl⟩
  | 1, _, w => by
    go_enter Try.func43, Try.ntmps43
    go_wp2_with fail
    go_ret
    exact ⟨rfl, rfl⟩
  | n + 2, hn, w => by
    have IH := Lib.hid (ifactorial_any (n + 1) (by omega) w)
    have b1 := fct_le hn
    have s1 : fct (n + 2) = fct (n + 1) * (n + 2) := rfl
    obtain ⟨m, hm⟩ : ∃ m, fct (n + 1) = m := ⟨_, rfl⟩
    obtain ⟨m2, hm2⟩ : ∃ m2, fct (n + 2) = m2 := ⟨_, rfl⟩
    obtain ⟨d, hd⟩ : ∃ d, n + 2 = d := ⟨_, rfl⟩
    obtain ⟨c, hc⟩ : ∃ c, n + 1 = c := ⟨_, rfl⟩
    rw [hm, hc] at IH
    rw [hm2] at b1
    rw [hm2, hm, hd] at s1
    rw [hm2, hd]
    have q1 : IntKind.i64.wrap ((d : Int) * (m : Int)) = (m2 : Int) := by rw [s1, Int.natCast_mul, Int.mul_comm]; exact IntWalk.i64_in _ (by rw [← Int.natCast_mul, ← s1]; omega)
    have q2 : IntKind.i64.wrap ((d : Int) - 1) = (c : Int) := by rw [IntWalk.i64_in _ (by omega)]; omega
    have d1 : ¬ (d : Int) < 2 := by omega
    clear hm hm2 s1 hd hc
    go_enter Try.func43, Try.ntmps43
    go_wp2_with (go_at_call 43; refine IH.out.mono ?_; rintro e w1 ⟨rfl, rfl⟩)
    go_ret
    exact ⟨rfl, rfl⟩

end Go.Proofs.Ytpcnjkgoehepaaa
