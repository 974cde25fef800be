/- The laws' own small functions. -/
import Derived.Test.YtcmbfkdhfdiamaaToInt
import Derived.Test.YtcmbfkdhfdiamaaLFrac
namespace Go.Proofs.Ytcmbfkdhfdiamaa
open Go.RowKit

set_option maxHeartbeats 1000000 in
theorem equalInts_row (b o c b' o' c' : Nat) (xs : List Int) (w : World) (h : RowI w b o xs) (h' : RowI w b' o' xs) (hl : xs.length ≤ 1048576) :
    Calls Try.prog 17 #[.slice (some ⟨b, o, none⟩) xs.length c, .slice (some ⟨b', o', none⟩) xs.length c'] w fun e w' => e = .returned (.bool true) ∧ Below w.heap.size w w' := by
  have H := Lib.hid h
  have H' := Lib.hid h'
  clear h h'
  go_enter Try.func17, Try.ntmps17
  go_wp2
  go_loopw [5] (fun v5 wr => ∃ k : Nat, k ≤ xs.length ∧ v5 = .int .i64 k ∧ ∃ n, wr = w.drewN n) (fun v5 _ => xs.length - (intOf v5).toNat)
  case atStart => exact ⟨0, Nat.zero_le _, rfl, 0, rfl⟩
  case round =>
    obtain ⟨k, hk, rfl, n, rfl⟩ := hrel
    by_cases hlt : k < xs.length
    · have c1 := H.out.cell k hlt
      have c2 := H'.out.cell k hlt
      go_wp2
      go_quiet (fail)
      go_wp2
      go_roundw
      case rel => exact ⟨k + 1, by omega, by go_num, n + nq, by simp⟩
      case measure => simp [intOf]; omega
    · go_wp2
      go_ret
      exact ⟨rfl, by (repeat' (first | (with_reducible exact Below.refl _ _) | (with_reducible assumption) | (with_reducible refine Below.drewN ?_ _) | (with_reducible refine Below.alloc ?_ ?_ _) | (with_reducible refine Below.drew ?_) | (with_reducible refine Below.setCell ?_ ?_ _) | (with_reducible refine Below.trans ?_ (Below.mono (by assumption) ?_)) | go_size | (with_reducible refine Nat.le_trans ?_ (Below.size (by assumption)))))⟩

set_option maxHeartbeats 1000000 in
theorem equalInts_nil (a a' : Option Addr) (c c' : Nat) (w : World) :
    Calls Try.prog 17 #[.slice a 0 c, .slice a' 0 c'] w fun e w' => e = .returned (.bool true) ∧ Below w.heap.size w w' := by
  go_enter Try.func17, Try.ntmps17
  go_wp2
  go_rounds 1
  go_ret
  exact ⟨rfl, by (repeat' (first | (with_reducible exact Below.refl _ _) | (with_reducible assumption) | (with_reducible refine Below.drewN ?_ _) | (with_reducible refine Below.alloc ?_ ?_ _) | (with_reducible refine Below.drew ?_) | (with_reducible refine Below.setCell ?_ ?_ _) | (with_reducible refine Below.trans ?_ (Below.mono (by assumption) ?_)) | go_size | (with_reducible refine Nat.le_trans ?_ (Below.size (by assumption)))))⟩

theorem equalInts_any (v v' : Value) (xs : List Int) (w : World) (h : ArgI w v xs) (h' : ArgI w v' xs) (hl : xs.length ≤ 1048576) :
    Calls Try.prog 17 #[v, v'] w fun e w' => e = .returned (.bool true) ∧ Below w.heap.size w w' := by
  rcases h with ⟨a, c, rfl, rfl⟩ | ⟨b, o, c, rfl, h⟩
  · rcases h' with ⟨a', c', rfl, _⟩ | ⟨b', o', c', rfl, h'⟩
    · exact equalInts_nil a a' c c' w
    · exact equalInts_nil a _ c c' w
  · rcases h' with ⟨a', c', rfl, rfl⟩ | ⟨b', o', c', rfl, h'⟩
    · exact equalInts_nil _ a' c c' w
    · exact equalInts_row b o c b' o' c' xs w h h' hl

/-- Strictly ascending up to the n-th one. -/
def Asc (xs : List Int) (n : Nat) : Prop := ∀ k, k + 1 < n → gi xs k < gi xs (k + 1)

set_option maxHeartbeats 1000000 in
theorem ascends_any (b o c : Nat) (xs : List Int) (w : World) (h : RowI w b o xs) (hl : xs.length ≤ 1048576) :
    Calls Try.prog 21 #[.slice (some ⟨b, o, none⟩) xs.length c] w fun e w' => ∃ v : Bool, e = .returned (.bool v) ∧ (v = true ↔ Asc xs xs.length) ∧ Below w.heap.size w w' := by
  have H := Lib.hid h
  clear h
  go_enter Try.func21, Try.ntmps21
  go_wp2
  go_loopw [3] (fun v3 wr => ∃ k : Nat, v3 = .int .i64 ((k + 1 : Nat) : Int) ∧ (k ≤ xs.length) ∧ Asc xs (k + 1) ∧ ∃ n, wr = w.drewN n) (fun v3 _ => xs.length + 1 - (intOf v3).toNat)
  case atStart => exact ⟨0, rfl, by omega, fun k hk => absurd hk (by omega), 0, rfl⟩
  case round =>
    obtain ⟨k, rfl, hk, ha, n, rfl⟩ := hrel
    have HA := Lib.hid ha
    clear ha
    by_cases hlt : k + 1 < xs.length
    · have c1 := H.out.cell (k + 1) hlt
      have c2 := H.out.cell k (by omega)
      have q1 : IntKind.i64.wrap (((k + 1 : Nat) : Int) - 1) = (k : Int) := by rw [IntWalk.i64_in _ (by omega)]; omega
      by_cases hc : gi xs (k + 1) ≤ gi xs k
      · have t1 : decide (gi xs (k + 1) ≤ gi xs k) = true := by simpa using hc
        go_wp2
        go_quiet (fail)
        go_wp2
        go_ret
        refine ⟨false, rfl, ?_, by (repeat' (first | (with_reducible exact Below.refl _ _) | (with_reducible assumption) | (with_reducible refine Below.drewN ?_ _) | (with_reducible refine Below.alloc ?_ ?_ _) | (with_reducible refine Below.drew ?_) | (with_reducible refine Below.setCell ?_ ?_ _) | (with_reducible refine Below.trans ?_ (Below.mono (by assumption) ?_)) | go_size | (with_reducible refine Nat.le_trans ?_ (Below.size (by assumption)))))⟩
        constructor
        · intro h; cases h
        · intro h; have := h k hlt; omega
      · have t1 : decide (gi xs (k + 1) ≤ gi xs k) = false := by simpa using hc
        go_wp2
        go_quiet (fail)
        go_wp2
        go_roundw
        case rel =>
          refine ⟨k + 1, by go_num, by omega, fun j hj => ?_, n + nq, by simp⟩
          by_cases hjk : j = k
          · subst hjk; omega
          · exact HA.out j (by omega)
        case measure => simp [intOf]; omega
    · go_wp2
      go_ret
      refine ⟨true, rfl, ?_, by (repeat' (first | (with_reducible exact Below.refl _ _) | (with_reducible assumption) | (with_reducible refine Below.drewN ?_ _) | (with_reducible refine Below.alloc ?_ ?_ _) | (with_reducible refine Below.drew ?_) | (with_reducible refine Below.setCell ?_ ?_ _) | (with_reducible refine Below.trans ?_ (Below.mono (by assumption) ?_)) | go_size | (with_reducible refine Nat.le_trans ?_ (Below.size (by assumption)))))⟩
      constructor
      · intro _ j hj; exact HA.out j (by omega)
      · intro _; rfl

set_option maxHeartbeats 1000000 in
theorem lessOf_any (p q : Rat) (w : World) (h2 : (up p).natAbs * dn q + (up q).natAbs * dn p ≤ 4611686018427387904) :
    Calls Try.prog 20 #[.agg #[.int .i64 (up p), .int .i64 (dn p)], .agg #[.int .i64 (up q), .int .i64 (dn q)]] w fun e w' =>
      e = .returned (.bool (decide (p < q))) ∧ Below w.heap.size w w' := by
  have e1 : decide (p < q) = decide (up p * dn q < up q * dn p) := by rw [decide_eq_decide]; exact lt_iff p q
  have d1 := dn_pos p
  have d2 := dn_pos q
  have k1 : (up p * dn q).natAbs = (up p).natAbs * (dn q).natAbs := Int.natAbs_mul _ _
  have k2 : (up q * dn p).natAbs = (up q).natAbs * (dn p).natAbs := Int.natAbs_mul _ _
  have k3 : ((up p * dn q).natAbs : Int) = (up p).natAbs * dn q := by rw [k1, Int.natCast_mul, Int.natAbs_of_nonneg (by omega : 0 ≤ dn q)]
  have k4 : ((up q * dn p).natAbs : Int) = (up q).natAbs * dn p := by rw [k2, Int.natCast_mul, Int.natAbs_of_nonneg (by omega : 0 ≤ dn p)]
  have q1 : IntKind.i64.wrap (up p * dn q) = up p * dn q := IntWalk.i64_in _ (by omega)
  have q2 : IntKind.i64.wrap (up q * dn p) = up q * dn p := IntWalk.i64_in _ (by omega)
  rw [e1]
  clear k1 k2 k3 k4 h2 e1 d1 d2
  generalize up p = a at *
  generalize dn p = b at *
  generalize up q = c at *
  generalize dn q = d at *
  go_enter Try.func20, Try.ntmps20
  go_wp2
  go_ret
  exact ⟨rfl, by (repeat' (first | (with_reducible exact Below.refl _ _) | (with_reducible assumption) | (with_reducible refine Below.drewN ?_ _) | (with_reducible refine Below.alloc ?_ ?_ _) | (with_reducible refine Below.drew ?_) | (with_reducible refine Below.setCell ?_ ?_ _) | (with_reducible refine Below.trans ?_ (Below.mono (by assumption) ?_)) | go_size | (with_reducible refine Nat.le_trans ?_ (Below.size (by assumption)))))⟩

end Go.Proofs.Ytcmbfkdhfdiamaa
