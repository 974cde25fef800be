/- What the laws' own functions on fractions return, as rational numbers. -/
import Derived.Test.YtoioafadenniiaaFrac
namespace Go.Proofs.Ytoioafadenniiaa
open Go.RowKit

set_option maxHeartbeats 400000 in
theorem lgcd_any (a b : Int) (w : World) (h1 : -4611686018427387904 ≤ a) (h2 : a ≤ 4611686018427387904) (h3 : -4611686018427387904 ≤ b) (h4 : b ≤ 4611686018427387904) :
    Calls Try.prog 73 #[.int .i64 a, .int .i64 b] w fun e w' => e = .returned (.int .i64 (Int.gcd a b : Int)) ∧ w = w' := by
  go_enter Try.func73, Try.ntmps73
  go_wp2
  go_loop [0, 1] (fun v0 v1 => ∃ x y : Int, -4611686018427387904 ≤ x ∧ x ≤ 4611686018427387904 ∧ -4611686018427387904 ≤ y ∧ y ≤ 4611686018427387904 ∧ v0 = .int .i64 x ∧ v1 = .int .i64 y ∧ Int.gcd x y = Int.gcd a b)
    (fun _ v1 => (intOf v1).natAbs)
  case atStart => exact ⟨a, b, h1, h2, h3, h4, rfl, rfl, rfl⟩
  case round =>
    obtain ⟨x, y, g1, g2, g3, g4, rfl, rfl, hg⟩ := hrel
    have HG := Lib.hid hg
    clear hg
    by_cases hy : y = 0
    · subst hy
      have hgx : (x.natAbs : Int) = (Int.gcd a b : Int) := by rw [← HG.out]; simp
      rcases Int.le_total 0 x with hx | hx
      · go_wp2
        all_goals go_ret
        all_goals exact ⟨by rw [← hgx]; exact congrArg (fun z => Ending.returned (.int .i64 z)) (by omega), rfl⟩
      · go_wp2
        all_goals go_ret
        all_goals exact ⟨by rw [← hgx]; exact congrArg (fun z => Ending.returned (.int .i64 z)) (by omega), rfl⟩
    · have hy' : (y != 0) = true := by simpa using hy
      have m1 := Int.natAbs_tmod x y
      have m2 : (x.tmod y).natAbs < y.natAbs := by rw [m1]; exact Nat.mod_lt _ (by omega)
      have M2 := Lib.hid m2
      clear m1 m2
      go_wp2
      go_round
      case rel => have := M2.out; exact ⟨y, x.tmod y, g3, g4, by omega, by omega, rfl, rfl, by rw [gcd_tmod]; exact HG.out⟩
      case measure => exact M2.out

theorem lgcd_as (a b g : Int) (hg : (Int.gcd a b : Int) = g) (w : World) (h1 : -4611686018427387904 ≤ a) (h2 : a ≤ 4611686018427387904) (h3 : -4611686018427387904 ≤ b) (h4 : b ≤ 4611686018427387904) :
    Calls Try.prog 73 #[.int .i64 a, .int .i64 b] w fun e w' => e = .returned (.int .i64 g) ∧ w = w' :=
  hg ▸ lgcd_any a b w h1 h2 h3 h4

set_option maxHeartbeats 400000 in
theorem lfrac_any (n d : Int) (w : World) (h1 : -4611686018427387904 ≤ n) (h2 : n ≤ 4611686018427387904) (h3 : -4611686018427387904 ≤ d) (h4 : d ≤ 4611686018427387904) (h0 : d ≠ 0) :
    Calls Try.prog 28 #[.int .i64 n, .int .i64 d] w fun e w' => e = .returned (.agg #[.int .i64 (up (qd n d)), .int .i64 (dn (qd n d))]) ∧ Below w.heap.size w w' := by
  rcases Int.lt_or_gt_of_ne h0 with hd | hd
  · have e0 : qd n d = qd (-n) (-d) := (qd_eq h0 (by omega)).2 (by rw [Int.mul_neg, Int.neg_mul])
    have hd' : 0 < -d := by omega
    obtain ⟨g, hg⟩ : ∃ g : Int, (Int.gcd (-n) (-d) : Int) = g := ⟨_, rfl⟩
    have g1 : 1 ≤ g := by have := gcd_pos (a := -n) (b := -d) (by omega); omega
    have e1 := num_pos (n := -n) hd'
    have e2 := den_pos (n := -n) hd'
    rw [hg] at e1 e2
    rw [e0]
    have E1 := Lib.hid e1
    have E2 := Lib.hid e2
    have HG := Lib.hid hg
    clear e0 e1 e2 hg h0
    go_enter Try.func28, Try.ntmps28
    go_wp2_with (go_at_call 73; refine (lgcd_as _ _ g HG.out _ (by omega) (by omega) (by omega) (by omega)).mono ?_; rintro e w' ⟨rfl, rfl⟩)
    go_region
    all_goals go_wp2
    refine bodyPost_ret (v := .agg #[.int .i64 (up (qd (-n) (-d))), .int .i64 (dn (qd (-n) (-d)))]) ?_ rfl ⟨rfl, ?_⟩
    · have b1 := tdiv_bd (-n) g 4611686018427387904 (by omega) (by omega)
      have b2 := tdiv_bd (-d) g 4611686018427387904 (by omega) (by omega)
      simp only [E1.out, E2.out]
      simp only [Int.neg_tdiv] at b1 b2 ⊢
      simp [results, Try.results28, go_sem]
      exact ⟨IntWalk.wrap64_in _ (by omega), IntWalk.wrap64_in _ (by omega)⟩
    · (repeat' (first | (with_reducible exact Below.refl _ _) | (with_reducible assumption) | (with_reducible refine Below.drewN ?_ _) | (with_reducible refine Below.alloc ?_ ?_ _) | (with_reducible refine Below.drew ?_) | (with_reducible refine Below.setCell ?_ ?_ _) | (with_reducible refine Below.trans ?_ (Below.mono (by assumption) ?_)) | go_size | (with_reducible refine Nat.le_trans ?_ (Below.size (by assumption)))))
  · obtain ⟨g, hg⟩ : ∃ g : Int, (Int.gcd n d : Int) = g := ⟨_, rfl⟩
    have g1 : 1 ≤ g := by have := gcd_pos (a := n) h0; omega
    have e1 := num_pos (n := n) hd
    have e2 := den_pos (n := n) hd
    rw [hg] at e1 e2
    have E1 := Lib.hid e1
    have E2 := Lib.hid e2
    have HG := Lib.hid hg
    clear e1 e2 hg h0
    go_enter Try.func28, Try.ntmps28
    go_wp2_with (go_at_call 73; refine (lgcd_as _ _ g HG.out _ (by omega) (by omega) (by omega) (by omega)).mono ?_; rintro e w' ⟨rfl, rfl⟩)
    go_region
    all_goals go_wp2
    refine bodyPost_ret (v := .agg #[.int .i64 (up (qd n d)), .int .i64 (dn (qd n d))]) ?_ rfl ⟨rfl, ?_⟩
    · have b1 := tdiv_bd n g 4611686018427387904 (by omega) (by omega)
      have b2 := tdiv_bd d g 4611686018427387904 (by omega) (by omega)
      simp only [E1.out, E2.out]
      simp [results, Try.results28, go_sem]
      exact (Int.tdiv_eq_ediv_of_nonneg (by omega)).symm
    · (repeat' (first | (with_reducible exact Below.refl _ _) | (with_reducible assumption) | (with_reducible refine Below.drewN ?_ _) | (with_reducible refine Below.alloc ?_ ?_ _) | (with_reducible refine Below.drew ?_) | (with_reducible refine Below.setCell ?_ ?_ _) | (with_reducible refine Below.trans ?_ (Below.mono (by assumption) ?_)) | go_size | (with_reducible refine Nat.le_trans ?_ (Below.size (by assumption)))))

theorem lfrac_as (n d : Int) (q : Rat) (hq : qd n d = q) (w : World) (h1 : -4611686018427387904 ≤ n) (h2 : n ≤ 4611686018427387904) (h3 : -4611686018427387904 ≤ d) (h4 : d ≤ 4611686018427387904) (h0 : d ≠ 0) :
    Calls Try.prog 28 #[.int .i64 n, .int .i64 d] w fun e w' => e = .returned (.agg #[.int .i64 (up q), .int .i64 (dn q)]) ∧ Below w.heap.size w w' :=
  hq ▸ lfrac_any n d w h1 h2 h3 h4 h0

set_option maxHeartbeats 1000000 in
theorem lplus_core (a b c d : Int) (r : Rat) (w : World) (_hb : 1 ≤ b) (_hd : 1 ≤ d) (hr : qd (a * d + c * b) (b * d) = r)
    (m1 : 1 ≤ b * d) (m2 : b * d ≤ 4611686018427387904) (a1 : -4611686018427387904 ≤ a * d) (a2 : a * d ≤ 4611686018427387904) (c1 : -4611686018427387904 ≤ c * b) (c2 : c * b ≤ 4611686018427387904) (s1 : -4611686018427387904 ≤ a * d + c * b) (s2 : a * d + c * b ≤ 4611686018427387904) :
    Calls Try.prog 30 #[.agg #[.int .i64 a, .int .i64 b], .agg #[.int .i64 c, .int .i64 d]] w fun e w' =>
      e = .returned (.agg #[.int .i64 (up r), .int .i64 (dn r)]) ∧ Below w.heap.size w w' := by
  have HS := Lib.hid hr
  clear hr
  have m0 : b * d ≠ 0 := by omega
  go_enter Try.func30, Try.ntmps30
  go_wp2_with (go_at_call 28; refine (lfrac_as _ _ r HS.out _ (by omega) (by omega) (by omega) (by omega) m0).mono ?_; rintro e w1 ⟨rfl, hb1⟩; obtain ⟨hc1, hf1⟩ := bcell hb1)
  refine bodyPost_ret (v := .agg #[.int .i64 (up r), .int .i64 (dn r)]) ?_ rfl ⟨rfl, ?_⟩
  · simp [results, Try.results30, go_sem, hc1]
  · (repeat' (first | (with_reducible exact Below.refl _ _) | (with_reducible assumption) | (with_reducible refine Below.drewN ?_ _) | (with_reducible refine Below.alloc ?_ ?_ _) | (with_reducible refine Below.drew ?_) | (with_reducible refine Below.setCell ?_ ?_ _) | (with_reducible refine Below.trans ?_ (Below.mono (by assumption) ?_)) | go_size | (with_reducible refine Nat.le_trans ?_ (Below.size (by assumption)))))

theorem lplus_any (p q r : Rat) (hr : p + q = r) (w : World) (h1 : dn p * dn q ≤ 4611686018427387904) (h2 : (up p).natAbs * dn q + (up q).natAbs * dn p ≤ 4611686018427387904) :
    Calls Try.prog 30 #[.agg #[.int .i64 (up p), .int .i64 (dn p)], .agg #[.int .i64 (up q), .int .i64 (dn q)]] w fun e w' =>
      e = .returned (.agg #[.int .i64 (up r), .int .i64 (dn r)]) ∧ Below w.heap.size w w' := by
  have p1 := dn_pos p
  have q1 := dn_pos q
  have m1 := Int.mul_pos p1 q1
  have n1 := abs_mul_le (up p) (dn q) (dn q) (by omega) (by omega)
  have n2 := abs_mul_le (up q) (dn p) (dn p) (by omega) (by omega)
  have n3 : 0 ≤ ((up p).natAbs : Int) * dn q := Int.mul_nonneg (by omega) (by omega)
  have n4 : 0 ≤ ((up q).natAbs : Int) * dn p := Int.mul_nonneg (by omega) (by omega)
  have e1 : qd (up p * dn q + up q * dn p) (dn p * dn q) = r := by
    rw [← hr]
    rw [← qd_add _ _ _ _ (by omega) (by omega), qd_up_dn, qd_up_dn]
  exact lplus_core _ _ _ _ r w (by omega) (by omega) e1 (by omega) (by omega) (by omega) (by omega) (by omega) (by omega) (by omega) (by omega)

set_option maxHeartbeats 1000000 in
theorem ltimes_core (a b c d : Int) (r : Rat) (w : World) (_hb : 1 ≤ b) (_hd : 1 ≤ d) (hr : qd (a * c) (b * d) = r)
    (m1 : 1 ≤ b * d) (m2 : b * d ≤ 4611686018427387904) (a1 : -4611686018427387904 ≤ a * c) (a2 : a * c ≤ 4611686018427387904) :
    Calls Try.prog 31 #[.agg #[.int .i64 a, .int .i64 b], .agg #[.int .i64 c, .int .i64 d]] w fun e w' =>
      e = .returned (.agg #[.int .i64 (up r), .int .i64 (dn r)]) ∧ Below w.heap.size w w' := by
  have HS := Lib.hid hr
  clear hr
  have m0 : b * d ≠ 0 := by omega
  go_enter Try.func31, Try.ntmps31
  go_wp2_with (go_at_call 28; refine (lfrac_as _ _ r HS.out _ (by omega) (by omega) (by omega) (by omega) m0).mono ?_; rintro e w1 ⟨rfl, hb1⟩; obtain ⟨hc1, hf1⟩ := bcell hb1)
  refine bodyPost_ret (v := .agg #[.int .i64 (up r), .int .i64 (dn r)]) ?_ rfl ⟨rfl, ?_⟩
  · simp [results, Try.results31, go_sem, hc1]
  · (repeat' (first | (with_reducible exact Below.refl _ _) | (with_reducible assumption) | (with_reducible refine Below.drewN ?_ _) | (with_reducible refine Below.alloc ?_ ?_ _) | (with_reducible refine Below.drew ?_) | (with_reducible refine Below.setCell ?_ ?_ _) | (with_reducible refine Below.trans ?_ (Below.mono (by assumption) ?_)) | go_size | (with_reducible refine Nat.le_trans ?_ (Below.size (by assumption)))))

theorem ltimes_any (p q r : Rat) (hr : p * q = r) (w : World) (h1 : dn p * dn q ≤ 4611686018427387904) (h2 : (up p * up q).natAbs ≤ 4611686018427387904) :
    Calls Try.prog 31 #[.agg #[.int .i64 (up p), .int .i64 (dn p)], .agg #[.int .i64 (up q), .int .i64 (dn q)]] w fun e w' =>
      e = .returned (.agg #[.int .i64 (up r), .int .i64 (dn r)]) ∧ Below w.heap.size w w' := by
  have p1 := dn_pos p
  have q1 := dn_pos q
  have m1 := Int.mul_pos p1 q1
  have e1 : qd (up p * up q) (dn p * dn q) = r := by rw [← hr, ← qd_mul, qd_up_dn, qd_up_dn]
  exact ltimes_core _ _ _ _ r w (by omega) (by omega) e1 (by omega) (by omega) (by omega) (by omega)

set_option maxHeartbeats 1000000 in
theorem lless_core (a b c d : Int) (w : World) (a1 : -4611686018427387904 ≤ a * d) (a2 : a * d ≤ 4611686018427387904) (c1 : -4611686018427387904 ≤ c * b) (c2 : c * b ≤ 4611686018427387904) :
    Calls Try.prog 36 #[.agg #[.int .i64 a, .int .i64 b], .agg #[.int .i64 c, .int .i64 d]] w fun e w' =>
      e = .returned (.bool (decide (a * d < c * b))) ∧ Below w.heap.size w w' := by
  go_enter Try.func36, Try.ntmps36
  go_wp2
  go_ret
  exact ⟨rfl, by (repeat' (first | (with_reducible exact Below.refl _ _) | (with_reducible assumption) | (with_reducible refine Below.drewN ?_ _) | (with_reducible refine Below.alloc ?_ ?_ _) | (with_reducible refine Below.drew ?_) | (with_reducible refine Below.setCell ?_ ?_ _) | (with_reducible refine Below.trans ?_ (Below.mono (by assumption) ?_)) | go_size | (with_reducible refine Nat.le_trans ?_ (Below.size (by assumption)))))⟩

theorem lless_any (p q : Rat) (w : World) (h2 : (up p).natAbs * dn q + (up q).natAbs * dn p ≤ 4611686018427387904) :
    Calls Try.prog 36 #[.agg #[.int .i64 (up p), .int .i64 (dn p)], .agg #[.int .i64 (up q), .int .i64 (dn q)]] w fun e w' =>
      e = .returned (.bool (decide (p < q))) ∧ Below w.heap.size w w' := by
  have p1 := dn_pos p
  have q1 := dn_pos q
  have n1 := abs_mul_le (up p) (dn q) (dn q) (by omega) (by omega)
  have n2 := abs_mul_le (up q) (dn p) (dn p) (by omega) (by omega)
  have n3 : 0 ≤ ((up p).natAbs : Int) * dn q := Int.mul_nonneg (by omega) (by omega)
  have n4 : 0 ≤ ((up q).natAbs : Int) * dn p := Int.mul_nonneg (by omega) (by omega)
  have e1 : decide (p < q) = decide (up p * dn q < up q * dn p) := by rw [decide_eq_decide]; exact lt_iff p q
  rw [e1]
  exact lless_core _ _ _ _ w (by omega) (by omega) (by omega) (by omega)

end Go.Proofs.Ytoioafadenniiaa
