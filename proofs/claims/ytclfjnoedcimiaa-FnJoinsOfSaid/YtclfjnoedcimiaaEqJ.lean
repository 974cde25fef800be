/- laws.equalJoins, laws.greatest. -/
import Derived.Test.YtclfjnoedcimiaaFarR
namespace Go.Proofs.Ytclfjnoedcimiaa
open Go.RowKit

set_option maxHeartbeats 1000000 in
theorem equalJoins_row (g c g' c' n : Nat) (fs : List Jn) (w : World) (h : Blk w g 35 (jc fs)) (h' : Blk w g' 35 (jc fs)) (hn : fs.length = n) (hl : n ≤ 1048576) :
    Calls Try.prog 14 #[.slice (some ⟨g, 0, none⟩) n c, .slice (some ⟨g', 0, none⟩) n c'] w fun e w' => e = .returned (.bool true) ∧ Below w.heap.size w w' := by
  have H := Lib.hid h
  have H' := Lib.hid h'
  have HN := Lib.hid hn
  have t0 : ((n : Int) != (n : Int)) = false := by simp
  clear h h' hn
  go_enter Try.func14, Try.ntmps14
  go_wp2_with fail
  go_loopw [5] (fun v5 wr => ∃ k : Nat, k ≤ n ∧ v5 = .int .i64 k ∧ Below w.heap.size w wr) (fun v5 _ => n - (intOf v5).toNat)
  case atStart => exact ⟨0, Nat.zero_le _, rfl, Below.refl _ _⟩
  case round =>
    obtain ⟨k, hk, rfl, hb⟩ := hrel
    by_cases hlt : k < n
    · have hkf : k < fs.length := by rw [HN.out]; exact hlt
      obtain ⟨c1, c2, c3⟩ := (H.out.below hb).jn hkf
      obtain ⟨d1, d2, d3⟩ := (H'.out.below hb).jn hkf
      generalize (gj fs k).1 = q1 at *
      generalize (gj fs k).2.1 = q2 at *
      generalize (gj fs k).2.2 = q3 at *
      have HB := Lib.hid hb
      clear hkf hb
      go_wp2_with fail
      go_quiet (fail)
      go_wp2_with fail
      go_roundw
      case rel => exact ⟨k + 1, by omega, by go_num, Below.drewN HB.out _⟩
      case measure => simp [intOf]; omega
    · go_wp2_with fail
      go_ret
      exact ⟨rfl, hb⟩

set_option maxHeartbeats 1000000 in
theorem equalJoins_nil (a a' : Option Addr) (c c' : Nat) (w : World) :
    Calls Try.prog 14 #[.slice a 0 c, .slice a' 0 c'] w fun e w' => e = .returned (.bool true) ∧ Below w.heap.size w w' := by
  go_enter Try.func14, Try.ntmps14
  go_wp2
  go_rounds 1
  go_ret
  exact ⟨rfl, by (repeat' (first | (with_reducible exact Below.refl _ _) | (with_reducible assumption) | (with_reducible refine Below.drewN ?_ _) | (with_reducible refine Below.alloc ?_ ?_ _) | (with_reducible refine Below.drew ?_) | (with_reducible refine Below.setCell ?_ ?_ _) | (with_reducible refine Below.trans ?_ (Below.mono (by assumption) ?_)) | go_size | (with_reducible refine Nat.le_trans ?_ (Below.size (by assumption)))))⟩

theorem equalJoins_any (v v' : Value) (B B' n : Nat) (fs : List Jn) (w : World) (h : Mut 35 w B v n (jc fs)) (h' : Mut 35 w B' v' n (jc fs)) (hn : fs.length = n) (hl : n ≤ 1048576) :
    Calls Try.prog 14 #[v, v'] w fun e w' => e = .returned (.bool true) ∧ Below w.heap.size w w' := by
  rcases h with ⟨rfl, rfl, _⟩ | ⟨g, c, rfl, _, h⟩
  · rcases h' with ⟨rfl, _, _⟩ | ⟨g', c', rfl, _, h'⟩
    · exact equalJoins_nil _ _ _ _ w
    · exact equalJoins_nil _ _ _ _ w
  · rcases h' with ⟨rfl, rfl, _⟩ | ⟨g', c', rfl, _, h'⟩
    · exact equalJoins_nil _ _ _ _ w
    · exact equalJoins_row g c g' c' n fs w h h' hn hl

/-- The greatest of the first k + 1. -/
def gtI (xs : List Int) : Nat → Int
  | 0 => gi xs 0
  | k + 1 => max (gtI xs k) (gi xs (k + 1))
theorem gtI_ge {xs : List Int} : ∀ k j, j ≤ k → gi xs j ≤ gtI xs k
  | 0, j, h => by
    have : j = 0 := by omega
    subst this; exact Int.le_refl _
  | k + 1, j, h => by
    rw [gtI]
    by_cases e : j = k + 1
    · subst e; omega
    · have := gtI_ge (xs := xs) k j (by omega); omega
theorem gtI_of {xs : List Int} : ∀ k, ∃ j, j ≤ k ∧ gtI xs k = gi xs j
  | 0 => ⟨0, Nat.le_refl _, rfl⟩
  | k + 1 => by
    obtain ⟨j, hj, e⟩ := gtI_of (xs := xs) k
    rw [gtI]
    rcases Int.le_total (gtI xs k) (gi xs (k + 1)) with q | q
    · exact ⟨k + 1, Nat.le_refl _, by omega⟩
    · exact ⟨j, by omega, by omega⟩
/-- The greatest of all gaps of the first m rows. -/
def mostI (xss : List (List Int)) : Nat → Int
  | 0 => 0
  | m + 1 => max (mostI xss m) (gtI (gl xss m) (xss.length - 1))
theorem most_ge {xss : List (List Int)} : ∀ m, 0 ≤ mostI xss m ∧ ∀ a b, a < m → b < xss.length → gm xss a b ≤ mostI xss m
  | 0 => ⟨Int.le_refl _, fun a b h => absurd h (Nat.not_lt_zero _)⟩
  | m + 1 => by
    obtain ⟨i1, i2⟩ := most_ge (xss := xss) m
    rw [mostI]
    refine ⟨by omega, fun a b ha hb => ?_⟩
    by_cases e : a = m
    · subst e
      have := gtI_ge (xs := gl xss a) (xss.length - 1) b (by omega)
      have e2 : gm xss a b = gi (gl xss a) b := rfl
      omega
    · have := i2 a b (by omega) hb; omega
theorem most_of {xss : List (List Int)} (h : 1 ≤ xss.length) : ∀ m, mostI xss m = 0 ∨ ∃ a b, a < m ∧ b < xss.length ∧ mostI xss m = gm xss a b
  | 0 => .inl rfl
  | m + 1 => by
    rw [mostI]
    obtain ⟨j, hj, e⟩ := gtI_of (xs := gl xss m) (xss.length - 1)
    rcases Int.le_total (mostI xss m) (gtI (gl xss m) (xss.length - 1)) with q | q
    · exact .inr ⟨m, j, by omega, by omega, by have e2 : gm xss m j = gi (gl xss m) j := rfl; omega⟩
    · rcases most_of h m with r | ⟨a, b, ha, hb, r⟩
      · exact .inl (by omega)
      · exact .inr ⟨a, b, by omega, hb, by omega⟩
theorem most_in {xss : List (List Int)} (hg : Gp xss) {m : Nat} (hm : m ≤ xss.length) : 0 ≤ mostI xss m ∧ mostI xss m ≤ 40 := by
  refine ⟨(most_ge m).1, ?_⟩
  rcases most_of hg.n0 m with e | ⟨a, b, ha, hb, e⟩
  · omega
  · have := gm_small hg (a := a) (b := b) (by omega) hb; omega

set_option maxHeartbeats 1000000 in
theorem greatest_any (b o c n : Nat) (xs : List Int) (w : World) (h : RowI w b o xs) (hn : xs.length = n) (h1 : 1 ≤ n) (hl : n ≤ 1048576) :
    Calls Try.prog 21 #[.slice (some ⟨b, o, none⟩) n c] w fun e w' => e = .returned (.int .i64 (gtI xs (n - 1))) ∧ Below w.heap.size w w' := by
  have H := Lib.hid h
  have HN := Lib.hid hn
  have c0 := h.cell 0 (by omega)
  rw [Nat.add_zero] at c0
  have p0 : (0 : Int) < (n : Int) := by omega
  have p1 : 0 < n := by omega
  clear h hn
  go_enter Try.func21, Try.ntmps21
  go_wp2_with fail
  go_loopw [3, 4] (fun v3 v4 wr => ∃ k : Nat, k + 1 ≤ n ∧ v4 = .int .i64 ((k : Int) + 1) ∧ v3 = .int .i64 (gtI xs k) ∧ Below w.heap.size w wr) (fun _ v4 _ => n - (intOf v4).toNat)
  case atStart => exact ⟨0, by omega, rfl, rfl, by (repeat' (first | (with_reducible exact Below.refl _ _) | (with_reducible assumption) | (with_reducible refine Below.drewN ?_ _) | (with_reducible refine Below.alloc ?_ ?_ _) | (with_reducible refine Below.drew ?_) | (with_reducible refine Below.setCell ?_ ?_ _) | (with_reducible refine Below.trans ?_ (Below.mono (by assumption) ?_)) | go_size | (with_reducible refine Nat.le_trans ?_ (Below.size (by assumption)))))⟩
  case round =>
    obtain ⟨k, hk, rfl, rfl, hb⟩ := hrel
    have HB := Lib.hid hb
    have hs : gtI xs (k + 1) = max (gtI xs k) (gi xs (k + 1)) := rfl
    by_cases hlt : k + 1 < n
    · have c1 := (H.out.below hb).cell (k + 1) (by rw [HN.out]; exact hlt)
      obtain ⟨u, hu⟩ : ∃ u, gtI xs k = u := ⟨_, rfl⟩
      obtain ⟨v, hv⟩ : ∃ u, gi xs (k + 1) = u := ⟨_, rfl⟩
      rw [hv] at c1
      rw [hu, hv] at hs
      rw [hu]
      obtain ⟨m, hm⟩ : ∃ m, max u v = m := ⟨_, rfl⟩
      rw [hm] at hs
      have m1 : (if u < v then v else u) = m := by rw [← hm]; split <;> omega
      have HS := Lib.hid hs
      have q2 : ((k : Int) + 1).toNat = k + 1 := by omega
      have q3 : (0 : Int) ≤ (k : Int) + 1 := by omega
      have q4 : (k : Int) + 1 < (n : Int) := by omega
      have q1 : IntKind.i64.wrap ((k : Int) + 1) = (k : Int) + 1 := IntWalk.i64_in _ (by omega)
      clear hs hu hv hb
      go_wp2_with fail
      go_roundw
      case rel => exact ⟨k + 1, by omega, by go_num, by rw [HS.out], HB.out⟩
      case measure => simp [intOf]; omega
    · have e : k = n - 1 := by omega
      have HE := Lib.hid e
      clear e hs
      have q4 : ¬ (k : Int) + 1 < (n : Int) := by omega
      go_wp2_with fail
      go_ret
      exact ⟨by rw [← HE.out]; rfl, hb⟩

end Go.Proofs.Ytclfjnoedcimiaa
