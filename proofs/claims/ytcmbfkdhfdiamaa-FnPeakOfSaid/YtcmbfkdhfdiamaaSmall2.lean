/- The laws' own small functions: more of them. -/
import Derived.Test.YtcmbfkdhfdiamaaSmall
import Derived.Test.YtcmbfkdhfdiamaaFRow
import Derived.Test.YtcmbfkdhfdiamaaLFrac
namespace Go.Proofs.Ytcmbfkdhfdiamaa
open Go.RowKit

/-- None less than the one ahead of it, up to the n-th one. -/
def Clm (xs : List Int) (n : Nat) : Prop := ∀ k, k + 1 < n → gi xs k ≤ gi xs (k + 1)

set_option maxHeartbeats 1000000 in
theorem climbs_any (b o c : Nat) (xs : List Int) (w : World) (h : RowI w b o xs) (hl : xs.length ≤ 1048576) :
    Calls Try.prog 45 #[.slice (some ⟨b, o, none⟩) xs.length c] w fun e w' => ∃ v : Bool, e = .returned (.bool v) ∧ (v = true ↔ Clm xs xs.length) ∧ Below w.heap.size w w' := by
  have H := Lib.hid h
  clear h
  go_enter Try.func45, Try.ntmps45
  go_wp2
  go_loopw [3] (fun v3 wr => ∃ k : Nat, v3 = .int .i64 ((k + 1 : Nat) : Int) ∧ (k ≤ xs.length) ∧ Clm xs (k + 1) ∧ ∃ n, wr = w.drewN n) (fun v3 _ => xs.length + 1 - (intOf v3).toNat)
  case atStart => exact ⟨0, rfl, by omega, fun k hk => absurd hk (by omega), 0, rfl⟩
  case round =>
    obtain ⟨k, rfl, hk, ha, n, rfl⟩ := hrel
    have HA := Lib.hid ha
    clear ha
    by_cases hlt : k + 1 < xs.length
    · have c1 := H.out.cell (k + 1) hlt
      have c2 := H.out.cell k (by omega)
      have q1 : IntKind.i64.wrap (((k + 1 : Nat) : Int) - 1) = (k : Int) := by rw [IntWalk.i64_in _ (by omega)]; omega
      by_cases hc : gi xs (k + 1) < gi xs k
      · have t1 : decide (gi xs (k + 1) < gi xs k) = true := by simpa using hc
        go_wp2
        go_quiet (fail)
        go_wp2
        go_ret
        refine ⟨false, rfl, ?_, by (repeat' (first | (with_reducible exact Below.refl _ _) | (with_reducible assumption) | (with_reducible refine Below.drewN ?_ _) | (with_reducible refine Below.alloc ?_ ?_ _) | (with_reducible refine Below.drew ?_) | (with_reducible refine Below.setCell ?_ ?_ _) | (with_reducible refine Below.trans ?_ (Below.mono (by assumption) ?_)) | go_size | (with_reducible refine Nat.le_trans ?_ (Below.size (by assumption)))))⟩
        constructor
        · intro h; cases h
        · intro h; have := h k hlt; omega
      · have t1 : decide (gi xs (k + 1) < gi xs k) = false := by simpa using hc
        go_wp2
        go_quiet (fail)
        go_wp2
        go_roundw
        case rel =>
          refine ⟨k + 1, by go_num, by omega, fun j hj => ?_, n + nq, by simp⟩
          by_cases hjk : j = k
          · subst hjk; omega
          · exact HA.out j (by omega)
        case measure => simp [intOf]; omega
    · go_wp2
      go_ret
      refine ⟨true, rfl, ?_, by (repeat' (first | (with_reducible exact Below.refl _ _) | (with_reducible assumption) | (with_reducible refine Below.drewN ?_ _) | (with_reducible refine Below.alloc ?_ ?_ _) | (with_reducible refine Below.drew ?_) | (with_reducible refine Below.setCell ?_ ?_ _) | (with_reducible refine Below.trans ?_ (Below.mono (by assumption) ?_)) | go_size | (with_reducible refine Nat.le_trans ?_ (Below.size (by assumption)))))⟩
      constructor
      · intro _ j hj; exact HA.out j (by omega)
      · intro _; rfl

set_option maxHeartbeats 1000000 in
theorem equalFracs_row (g c g' c' n : Nat) (fs : List Rat) (w : World) (h : Blk w g 29 (fc fs)) (h' : Blk w g' 29 (fc fs)) (hn : fs.length = n) (hl : n ≤ 1048576) :
    Calls Try.prog 29 #[.slice (some ⟨g, 0, none⟩) n c, .slice (some ⟨g', 0, none⟩) n c'] w fun e w' => e = .returned (.bool true) ∧ Below w.heap.size w w' := by
  have H := Lib.hid h
  have H' := Lib.hid h'
  have HN := Lib.hid hn
  clear h h' hn
  go_enter Try.func29, Try.ntmps29
  go_wp2
  go_loopw [5] (fun v5 wr => ∃ k : Nat, k ≤ n ∧ v5 = .int .i64 k ∧ Below w.heap.size w wr) (fun v5 _ => n - (intOf v5).toNat)
  case atStart => exact ⟨0, Nat.zero_le _, rfl, Below.refl _ _⟩
  case round =>
    obtain ⟨k, hk, rfl, hb⟩ := hrel
    by_cases hlt : k < n
    · have hkf : k < fs.length := by rw [HN.out]; exact hlt
      have c1 := (H.out.below hb).f0 hkf
      have c2 := (H.out.below hb).f1 hkf
      have c3 := (H'.out.below hb).f0 hkf
      have c4 := (H'.out.below hb).f1 hkf
      clear hkf
      have hz := hb.size
      go_wp2
      go_quiet (fail)
      go_wp2
      go_roundw
      case rel => exact ⟨k + 1, by omega, by go_num, by (repeat' (first | (with_reducible exact Below.refl _ _) | (with_reducible assumption) | (with_reducible refine Below.drewN ?_ _) | (with_reducible refine Below.alloc ?_ ?_ _) | (with_reducible refine Below.drew ?_) | (with_reducible refine Below.setCell ?_ ?_ _) | (with_reducible refine Below.trans ?_ (Below.mono (by assumption) ?_)) | go_size | (with_reducible refine Nat.le_trans ?_ (Below.size (by assumption)))))⟩
      case measure => simp [intOf]; omega
    · go_wp2
      go_ret
      exact ⟨rfl, hb⟩


set_option maxHeartbeats 1000000 in
theorem equalFracs_nil (a a' : Option Addr) (c c' : Nat) (w : World) :
    Calls Try.prog 29 #[.slice a 0 c, .slice a' 0 c'] w fun e w' => e = .returned (.bool true) ∧ Below w.heap.size w w' := by
  go_enter Try.func29, Try.ntmps29
  go_wp2
  go_rounds 1
  go_ret
  exact ⟨rfl, by (repeat' (first | (with_reducible exact Below.refl _ _) | (with_reducible assumption) | (with_reducible refine Below.drewN ?_ _) | (with_reducible refine Below.alloc ?_ ?_ _) | (with_reducible refine Below.drew ?_) | (with_reducible refine Below.setCell ?_ ?_ _) | (with_reducible refine Below.trans ?_ (Below.mono (by assumption) ?_)) | go_size | (with_reducible refine Nat.le_trans ?_ (Below.size (by assumption)))))⟩

theorem equalFracs_any (v v' : Value) (B B' n : Nat) (fs : List Rat) (w : World) (h : Mut 29 w B v n (fc fs)) (h' : Mut 29 w B' v' n (fc fs)) (hn : fs.length = n) (hl : n ≤ 1048576) :
    Calls Try.prog 29 #[v, v'] w fun e w' => e = .returned (.bool true) ∧ Below w.heap.size w w' := by
  rcases h with ⟨rfl, rfl, _⟩ | ⟨g, c, rfl, _, h⟩
  · rcases h' with ⟨rfl, _, _⟩ | ⟨g', c', rfl, _, h'⟩
    · exact equalFracs_nil _ _ _ _ w
    · exact equalFracs_nil _ _ _ _ w
  · rcases h' with ⟨rfl, rfl, _⟩ | ⟨g', c', rfl, _, h'⟩
    · exact equalFracs_nil _ _ _ _ w
    · exact equalFracs_row g c g' c' n fs w h h' hn hl

end Go.Proofs.Ytcmbfkdhfdiamaa
