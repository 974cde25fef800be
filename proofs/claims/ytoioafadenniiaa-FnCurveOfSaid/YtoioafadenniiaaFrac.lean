/- What the program's functions on fractions return, as rational numbers. -/
import Derived.Test.YtoioafadenniiaaProg
import Derived.Test.YtoioafadenniiaaBase
import Derived.Test.YtoioafadenniiaaRat
import Derived.WalkKit
import Derived.WalkSpells
import Derived.WalkLawsBesides
import Derived.Handy
import Derived.BigQuiet
import Derived.Deep.RegionHeld3
import Derived.Deep.RegionWith
import Derived.StillTailTactics
namespace Go.Proofs.Ytoioafadenniiaa
open Go.RowKit

/-- The bound of what is reckoned with. -/
def BIG : Int := 4611686018427387904

theorem fd0 (x y : Value) (w : World) : (Instr.field 31 (.agg #[x, y]) 0).run Try.prog w = .ok x w := by kernel_rfl
theorem fd1 (x y : Value) (w : World) : (Instr.field 31 (.agg #[x, y]) 1).run Try.prog w = .ok y w := by kernel_rfl

set_option maxHeartbeats 400000 in
theorem divisor_any (a b : Int) (w : World) (h1 : -4611686018427387904 ≤ a) (h2 : a ≤ 4611686018427387904) (h3 : -4611686018427387904 ≤ b) (h4 : b ≤ 4611686018427387904) :
    Calls Try.prog 85 #[.int .i64 a, .int .i64 b] w fun e w' => e = .returned (.int .i64 (Int.gcd a b : Int)) ∧ ∃ n, w' = w.drewN n := by
  go_enter Try.func85, Try.ntmps85
  go_wp2
  go_loopw [0, 1] (fun v0 v1 wr => ∃ x y : Int, -4611686018427387904 ≤ x ∧ x ≤ 4611686018427387904 ∧ -4611686018427387904 ≤ y ∧ y ≤ 4611686018427387904 ∧ v0 = .int .i64 x ∧ v1 = .int .i64 y ∧ Int.gcd x y = Int.gcd a b ∧ ∃ n, wr = w.drewN n)
    (fun _ v1 _ => (intOf v1).natAbs)
  case atStart => exact ⟨a, b, h1, h2, h3, h4, rfl, rfl, rfl, 0, rfl⟩
  case round =>
    obtain ⟨x, y, g1, g2, g3, g4, rfl, rfl, hg, n, rfl⟩ := hrel
    have HG := Lib.hid hg
    clear hg
    by_cases hy : y = 0
    · subst hy
      have hgx : (x.natAbs : Int) = (Int.gcd a b : Int) := by rw [← HG.out]; simp
      rcases Int.le_total 0 x with hx | hx
      · go_wp2
        all_goals go_ret
        all_goals exact ⟨by rw [← hgx]; exact congrArg (fun z => Ending.returned (.int .i64 z)) (by omega), n, rfl⟩
      · go_wp2
        all_goals go_ret
        all_goals exact ⟨by rw [← hgx]; exact congrArg (fun z => Ending.returned (.int .i64 z)) (by omega), n, rfl⟩
    · have hy' : (y != 0) = true := by simpa using hy
      have m1 := Int.natAbs_tmod x y
      have m2 : (x.tmod y).natAbs < y.natAbs := by rw [m1]; exact Nat.mod_lt _ (by omega)
      have M2 := Lib.hid m2
      clear m1 m2
      go_wp2
      go_region
      all_goals go_wp2
      all_goals go_roundw
      case rel => have := M2.out; exact ⟨y, x.tmod y, g3, g4, by omega, by omega, rfl, rfl, by rw [gcd_tmod]; exact HG.out, n + 1, rfl⟩
      case measure => exact M2.out

theorem divisor_as (a b g : Int) (hg : (Int.gcd a b : Int) = g) (w : World) (h1 : -4611686018427387904 ≤ a) (h2 : a ≤ 4611686018427387904) (h3 : -4611686018427387904 ≤ b) (h4 : b ≤ 4611686018427387904) :
    Calls Try.prog 85 #[.int .i64 a, .int .i64 b] w fun e w' => e = .returned (.int .i64 g) ∧ ∃ n, w' = w.drewN n :=
  hg ▸ divisor_any a b w h1 h2 h3 h4

set_option maxHeartbeats 400000 in
theorem frac_any (n d : Int) (w : World) (h1 : -4611686018427387904 ≤ n) (h2 : n ≤ 4611686018427387904) (h3 : -4611686018427387904 ≤ d) (h4 : d ≤ 4611686018427387904) (h0 : d ≠ 0) :
    Calls Try.prog 69 #[.int .i64 n, .int .i64 d] w fun e w' => e = .returned (.agg #[.int .i64 (up (qd n d)), .int .i64 (dn (qd n d))]) ∧ Below w.heap.size w w' := by
  obtain ⟨g, hg⟩ : ∃ g : Int, (Int.gcd n d : Int) = g := ⟨_, rfl⟩
  have g1 : 1 ≤ g := by have := gcd_pos (a := n) h0; omega
  have g2 : g ≤ 4611686018427387904 := by have := gcd_le (a := n) h0; omega
  rcases Int.lt_or_gt_of_ne h0 with hd | hd
  · have e1 := num_neg (n := n) hd
    have e2 := den_neg (n := n) hd
    rw [hg] at e1 e2
    have E1 := Lib.hid e1
    have E2 := Lib.hid e2
    have HG := Lib.hid hg
    clear e1 e2 hg h0
    go_enter Try.func69, Try.ntmps69
    go_wp2_with (go_at_call 85; refine (divisor_as _ _ g HG.out _ (by omega) (by omega) (by omega) (by omega)).mono ?_; rintro e w' ⟨rfl, nq, rfl⟩)
    go_region
    all_goals go_wp2
    refine bodyPost_ret (v := .agg #[.int .i64 (up (qd n d)), .int .i64 (dn (qd n d))]) ?_ rfl ⟨rfl, ?_⟩
    · have b1 := tdiv_bd n g _ (show -4611686018427387904 ≤ n from h1) h2
      have b2 := tdiv_bd d g _ (show -4611686018427387904 ≤ d from h3) h4
      simp only [E1.out, E2.out, Int.tdiv_neg]
      simp [results, Try.results69, go_sem]
      exact ⟨IntWalk.wrap64_in _ (by omega), IntWalk.wrap64_in _ (by omega)⟩
    · (repeat' (first | (with_reducible exact Below.refl _ _) | (with_reducible assumption) | (with_reducible refine Below.drewN ?_ _) | (with_reducible refine Below.alloc ?_ ?_ _) | (with_reducible refine Below.drew ?_) | (with_reducible refine Below.setCell ?_ ?_ _) | (with_reducible refine Below.trans ?_ (Below.mono (by assumption) ?_)) | go_size | (with_reducible refine Nat.le_trans ?_ (Below.size (by assumption)))))
  · have e1 := num_pos (n := n) hd
    have e2 := den_pos (n := n) hd
    rw [hg] at e1 e2
    have E1 := Lib.hid e1
    have E2 := Lib.hid e2
    have HG := Lib.hid hg
    clear e1 e2 hg h0
    go_enter Try.func69, Try.ntmps69
    go_wp2_with (go_at_call 85; refine (divisor_as _ _ g HG.out _ (by omega) (by omega) (by omega) (by omega)).mono ?_; rintro e w' ⟨rfl, nq, rfl⟩)
    go_region
    all_goals go_wp2
    refine bodyPost_ret (v := .agg #[.int .i64 (up (qd n d)), .int .i64 (dn (qd n d))]) ?_ rfl ⟨rfl, ?_⟩
    · have b1 := tdiv_bd n g _ (show -4611686018427387904 ≤ n from h1) h2
      have b2 := tdiv_bd d g _ (show -4611686018427387904 ≤ d from h3) h4
      simp only [E1.out, E2.out]
      simp [results, Try.results69, go_sem]
      exact (Int.tdiv_eq_ediv_of_nonneg (by omega)).symm
    · (repeat' (first | (with_reducible exact Below.refl _ _) | (with_reducible assumption) | (with_reducible refine Below.drewN ?_ _) | (with_reducible refine Below.alloc ?_ ?_ _) | (with_reducible refine Below.drew ?_) | (with_reducible refine Below.setCell ?_ ?_ _) | (with_reducible refine Below.trans ?_ (Below.mono (by assumption) ?_)) | go_size | (with_reducible refine Nat.le_trans ?_ (Below.size (by assumption)))))


theorem frac_as (n d : Int) (q : Rat) (hq : qd n d = q) (w : World) (h1 : -4611686018427387904 ≤ n) (h2 : n ≤ 4611686018427387904) (h3 : -4611686018427387904 ≤ d) (h4 : d ≤ 4611686018427387904) (h0 : d ≠ 0) :
    Calls Try.prog 69 #[.int .i64 n, .int .i64 d] w fun e w' => e = .returned (.agg #[.int .i64 (up q), .int .i64 (dn q)]) ∧ Below w.heap.size w w' :=
  hq ▸ frac_any n d w h1 h2 h3 h4 h0

set_option maxHeartbeats 400000 in
theorem whole_any (n : Int) (w : World) :
    Calls Try.prog 51 #[.int .i64 n] w fun e w' => e = .returned (.agg #[.int .i64 (up (qd n 1)), .int .i64 (dn (qd n 1))]) ∧ Below w.heap.size w w' := by
  go_enter Try.func51, Try.ntmps51
  go_wp2
  refine bodyPost_ret (v := .agg #[.int .i64 (up (qd n 1)), .int .i64 (dn (qd n 1))]) ?_ rfl ⟨rfl, ?_⟩
  · rw [up_qd, dn_qd]
    simp [results, Try.results51, go_sem]
  · (repeat' (first | (with_reducible exact Below.refl _ _) | (with_reducible assumption) | (with_reducible refine Below.drewN ?_ _) | (with_reducible refine Below.alloc ?_ ?_ _) | (with_reducible refine Below.drew ?_) | (with_reducible refine Below.setCell ?_ ?_ _) | (with_reducible refine Below.trans ?_ (Below.mono (by assumption) ?_)) | go_size | (with_reducible refine Nat.le_trans ?_ (Below.size (by assumption)))))

set_option maxHeartbeats 1000000 in
theorem plus_core (a b c d : Int) (r : Rat) (w : World) (hb : 1 ≤ b) (hd : 1 ≤ d) (hr : qd a b + qd c d = r) (h1 : b * d ≤ 4611686018427387904) (h2 : a.natAbs * d + c.natAbs * b ≤ 4611686018427387904)
    (hb2 : b ≤ 4611686018427387904) (hd2 : d ≤ 4611686018427387904) :
    Calls Try.prog 55 #[.agg #[.int .i64 a, .int .i64 b], .agg #[.int .i64 c, .int .i64 d]] w fun e w' =>
      e = .returned (.agg #[.int .i64 (up r), .int .i64 (dn r)]) ∧ Below w.heap.size w w' := by
  obtain ⟨g, hg⟩ : ∃ g : Int, (Int.gcd b d : Int) = g := ⟨_, rfl⟩
  have g1 : 1 ≤ g := by have := gcd_pos (a := b) (b := d) (by omega); omega
  have hf := plus_facts a b c d g hb hd hg h1 h2
  obtain ⟨D, hD⟩ : ∃ D, d / g = D := ⟨_, rfl⟩
  obtain ⟨E, hE⟩ : ∃ E, b / g = E := ⟨_, rfl⟩
  rw [hD, hE] at hf
  have hs := (hf.sum hb hd g1).trans hr
  have HS := Lib.hid hs
  have HG := Lib.hid hg
  have HF := Lib.hid hf
  obtain ⟨d1, d2, e1, e2, -, -, a1, a2, c1, c2, s1, s2, m1, m2⟩ := hf
  clear hg hr h1 h2 hs
  have m0 : E * d ≠ 0 := by omega
  go_enter Try.func55, Try.ntmps55
  go_wp2_with (go_at_call 85; refine (divisor_as _ _ g HG.out _ (by omega) (by omega) (by omega) (by omega)).mono ?_; rintro e w' ⟨rfl, nq, rfl⟩)
  (refine region_tail 22 (by kernel_rfl) (by kernel_rfl) ?_; simp only [List.take_succ_cons, List.take_zero, List.drop_succ_cons, List.drop_zero]; (repeat (go_big_quiet_step (fail))); refine wpQuiet_nil ?_)
  go_wp2_with (go_at_call 69; refine (frac_as _ _ r HS.out _ (by omega) (by omega) (by omega) (by omega) m0).mono ?_; rintro e w1 ⟨rfl, hb1⟩; obtain ⟨hc1, hf1⟩ := bcell hb1)
  refine bodyPost_ret (v := .agg #[.int .i64 (up r), .int .i64 (dn r)]) ?_ rfl ⟨rfl, ?_⟩
  · simp [results, Try.results55, go_sem, hc1]
  · (repeat' (first | (with_reducible exact Below.refl _ _) | (with_reducible assumption) | (with_reducible refine Below.drewN ?_ _) | (with_reducible refine Below.alloc ?_ ?_ _) | (with_reducible refine Below.drew ?_) | (with_reducible refine Below.setCell ?_ ?_ _) | (with_reducible refine Below.trans ?_ (Below.mono (by assumption) ?_)) | go_size | (with_reducible refine Nat.le_trans ?_ (Below.size (by assumption)))))

theorem plus_any (p q r : Rat) (hr : p + q = r) (w : World) (h1 : dn p * dn q ≤ 4611686018427387904) (h2 : (up p).natAbs * dn q + (up q).natAbs * dn p ≤ 4611686018427387904) :
    Calls Try.prog 55 #[.agg #[.int .i64 (up p), .int .i64 (dn p)], .agg #[.int .i64 (up q), .int .i64 (dn q)]] w fun e w' =>
      e = .returned (.agg #[.int .i64 (up r), .int .i64 (dn r)]) ∧ Below w.heap.size w w' := by
  have p1 := dn_pos p
  have q1 := dn_pos q
  have m1 := Int.mul_le_mul_of_nonneg_left (show (1 : Int) ≤ dn q by omega) (show 0 ≤ dn p by omega)
  have m2 := Int.mul_le_mul_of_nonneg_right (show (1 : Int) ≤ dn p by omega) (show 0 ≤ dn q by omega)
  exact plus_core _ _ _ _ r w (by omega) (by omega) (by rw [qd_up_dn, qd_up_dn]; exact hr) h1 h2 (by omega) (by omega)

set_option maxHeartbeats 1000000 in
theorem minus_any (p q r : Rat) (hr : p - q = r) (w : World) (h1 : dn p * dn q ≤ 4611686018427387904) (h2 : (up p).natAbs * dn q + (up q).natAbs * dn p ≤ 4611686018427387904) :
    Calls Try.prog 58 #[.agg #[.int .i64 (up p), .int .i64 (dn p)], .agg #[.int .i64 (up q), .int .i64 (dn q)]] w fun e w' =>
      e = .returned (.agg #[.int .i64 (up r), .int .i64 (dn r)]) ∧ Below w.heap.size w w' := by
  have hp := plus_any p (-q) r (by rw [← Rat.sub_eq_add_neg]; exact hr)
  rw [up_neg, dn_neg] at hp
  have hb : -4611686018427387904 ≤ up q ∧ up q ≤ 4611686018427387904 := by
    have p1 := dn_pos p
    have m1 := Int.mul_le_mul_of_nonneg_left (show (1 : Int) ≤ dn p by omega) (show 0 ≤ ((up q).natAbs : Int) by omega)
    have m3 : 0 ≤ ((up p).natAbs : Int) * dn q := Int.mul_nonneg (by omega) (by have := dn_pos q; omega)
    omega
  have HP := Lib.hid (fun w => hp w h1 (by rw [Int.natAbs_neg]; exact h2))
  obtain ⟨b1, b2⟩ := hb
  clear hp h1 h2 hr
  go_enter Try.func58, Try.ntmps58
  go_wp2_with (go_at_call 55; refine (HP.out _).mono ?_; rintro e w1 ⟨rfl, hb1⟩; obtain ⟨hc1, hf1⟩ := bcell hb1)
  refine bodyPost_ret (v := .agg #[.int .i64 (up r), .int .i64 (dn r)]) ?_ rfl ⟨rfl, ?_⟩
  · simp [results, Try.results58, go_sem, hc1]
  · (repeat' (first | (with_reducible exact Below.refl _ _) | (with_reducible assumption) | (with_reducible refine Below.drewN ?_ _) | (with_reducible refine Below.alloc ?_ ?_ _) | (with_reducible refine Below.drew ?_) | (with_reducible refine Below.setCell ?_ ?_ _) | (with_reducible refine Below.trans ?_ (Below.mono (by assumption) ?_)) | go_size | (with_reducible refine Nat.le_trans ?_ (Below.size (by assumption)))))

set_option maxHeartbeats 1000000 in
theorem less_any (p q : Rat) (w : World) (h1 : dn p * dn q ≤ 4611686018427387904) (h2 : (up p).natAbs * dn q + (up q).natAbs * dn p ≤ 4611686018427387904) :
    Calls Try.prog 74 #[.agg #[.int .i64 (up p), .int .i64 (dn p)], .agg #[.int .i64 (up q), .int .i64 (dn q)]] w fun e w' =>
      e = .returned (.bool (decide (p < q))) ∧ Below w.heap.size w w' := by
  have HP := Lib.hid (fun w => minus_any p q (p - q) rfl w h1 h2)
  have hl : decide (p < q) = decide (up (p - q) < 0) := by rw [decide_eq_decide, up_lt_zero]; grind
  rw [hl]
  clear hl h1 h2
  obtain ⟨r, hr⟩ : ∃ r, p - q = r := ⟨_, rfl⟩
  rw [hr] at HP ⊢
  clear hr
  have hfd0 := fd0
  go_enter Try.func74, Try.ntmps74
  go_wp2_with (go_at_call 58; refine (HP.out _).mono ?_; rintro e w1 ⟨rfl, hb1⟩; obtain ⟨hc1, hf1⟩ := bcell hb1)
  go_ret
  exact ⟨rfl, by (repeat' (first | (with_reducible exact Below.refl _ _) | (with_reducible assumption) | (with_reducible refine Below.drewN ?_ _) | (with_reducible refine Below.alloc ?_ ?_ _) | (with_reducible refine Below.drew ?_) | (with_reducible refine Below.setCell ?_ ?_ _) | (with_reducible refine Below.trans ?_ (Below.mono (by assumption) ?_)) | go_size | (with_reducible refine Nat.le_trans ?_ (Below.size (by assumption)))))⟩

def sgn (n : Int) : Int := max (-1) (min 1 n)

set_option maxHeartbeats 400000 in
theorem sign_any (n : Int) (w : World) : Calls Try.prog 86 #[.int .i64 n] w fun e w' => e = .returned (.int .i64 (sgn n)) ∧ w = w' := by
  rcases Int.lt_trichotomy n 0 with h | h | h
  · have e : sgn n = -1 := by unfold sgn; omega
    rw [e]
    clear e
    go_enter Try.func86, Try.ntmps86
    go_wp2
    all_goals go_ret
    all_goals exact ⟨rfl, rfl⟩
  · subst h
    have e : sgn 0 = 0 := rfl
    rw [e]
    clear e
    go_enter Try.func86, Try.ntmps86
    go_wp2
    all_goals go_ret
    all_goals exact ⟨rfl, rfl⟩
  · have e : sgn n = 1 := by unfold sgn; omega
    rw [e]
    clear e
    go_enter Try.func86, Try.ntmps86
    go_wp2
    all_goals go_ret
    all_goals exact ⟨rfl, rfl⟩


theorem sgn_up (q : Rat) : sgn (up q) = if q < 0 then -1 else if 0 < q then 1 else 0 := by
  have h1 := up_lt_zero q
  have h2 := up_eq_zero q
  have h3 : q < 0 ∨ q = 0 ∨ 0 < q := by grind
  unfold sgn
  rcases h3 with h | h | h
  · have := h1.2 h; rw [if_pos h]; omega
  · have := h2.2 h; rw [if_neg (by grind), if_neg (by grind)]; omega
  · have h4 : ¬ up q < 0 := fun hh => by have := h1.1 hh; grind
    have h5 : ¬ up q = 0 := fun hh => by have := h2.1 hh; grind
    rw [if_neg (by grind), if_pos h]; omega

/-- How two rational numbers stand to each other: -1, 0 or 1. -/
def cmpQ (p q : Rat) : Int := if p < q then -1 else if q < p then 1 else 0

set_option maxHeartbeats 1000000 in
theorem compare_any (p q : Rat) (w : World) (h1 : dn p * dn q ≤ 4611686018427387904) (h2 : (up p).natAbs * dn q + (up q).natAbs * dn p ≤ 4611686018427387904) :
    Calls Try.prog 60 #[.agg #[.int .i64 (up p), .int .i64 (dn p)], .agg #[.int .i64 (up q), .int .i64 (dn q)]] w fun e w' =>
      e = .returned (.int .i64 (cmpQ p q)) ∧ Below w.heap.size w w' := by
  have HP := Lib.hid (fun w => minus_any p q (p - q) rfl w h1 h2)
  have hl : cmpQ p q = sgn (up (p - q)) := by
    rw [sgn_up]
    unfold cmpQ
    have e1 : p < q ↔ p - q < 0 := by grind
    have e2 : q < p ↔ 0 < p - q := by grind
    simp only [e1, e2]
  rw [hl]
  clear hl h1 h2
  obtain ⟨r, hr⟩ : ∃ r, p - q = r := ⟨_, rfl⟩
  rw [hr] at HP ⊢
  clear hr
  have hfd0 := fd0
  go_enter Try.func60, Try.ntmps60
  go_wp2_with (first | (go_at_call 58; refine (HP.out _).mono ?_; rintro e w1 ⟨rfl, hb1⟩; obtain ⟨hc1, hf1⟩ := bcell hb1) | (go_at_call 86; refine (sign_any _ _).mono ?_; rintro e w2 ⟨rfl, rfl⟩))
  go_ret
  exact ⟨rfl, by (repeat' (first | (with_reducible exact Below.refl _ _) | (with_reducible assumption) | (with_reducible refine Below.drewN ?_ _) | (with_reducible refine Below.alloc ?_ ?_ _) | (with_reducible refine Below.drew ?_) | (with_reducible refine Below.setCell ?_ ?_ _) | (with_reducible refine Below.trans ?_ (Below.mono (by assumption) ?_)) | go_size | (with_reducible refine Nat.le_trans ?_ (Below.size (by assumption)))))⟩

end Go.Proofs.Ytoioafadenniiaa
