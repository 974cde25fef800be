/- laws.equalInts; what is nil or a row. -/
import Derived.Test.YtpcnjkgoehepaaaToInt
namespace Go.Proofs.Ytpcnjkgoehepaaa
open Go.RowKit

set_option maxHeartbeats 1000000 in
theorem equalInts_row (b o c b' o' c' : Nat) (xs : List Int) (w : World) (h : RowI w b o xs) (h' : RowI w b' o' xs) (hl : xs.length ≤ 1048576) :
    Calls Try.prog 18 #[.slice (some ⟨b, o, none⟩) xs.length c, .slice (some ⟨b', o', none⟩) xs.length c'] w fun e w' => e = .returned (.bool true) ∧ Below w.heap.size w w' := by
  have H := Lib.hid h
  have H' := Lib.hid h'
  clear h h'
  go_enter Try.func18, Try.ntmps18
  go_wp2
  go_loopw [5] (fun v5 wr => ∃ k : Nat, k ≤ xs.length ∧ v5 = .int .i64 k ∧ ∃ n, wr = w.drewN n) (fun v5 _ => xs.length - (intOf v5).toNat)
  case atStart => exact ⟨0, Nat.zero_le _, rfl, 0, rfl⟩
  case round =>
    obtain ⟨k, hk, rfl, n, rfl⟩ := hrel
    by_cases hlt : k < xs.length
    · have c1 := H.out.cell k hlt
      have c2 := H'.out.cell k hlt
      go_wp2
      go_quiet (fail)
      go_wp2
      go_roundw
      case rel => exact ⟨k + 1, by omega, by go_num, n + nq, by simp⟩
      case measure => simp [intOf]; omega
    · go_wp2
      go_ret
      exact ⟨rfl, by (repeat' (first | (with_reducible exact Below.refl _ _) | (with_reducible assumption) | (with_reducible refine Below.drewN ?_ _) | (with_reducible refine Below.alloc ?_ ?_ _) | (with_reducible refine Below.drew ?_) | (with_reducible refine Below.setCell ?_ ?_ _) | (with_reducible refine Below.trans ?_ (Below.mono (by assumption) ?_)) | go_size | (with_reducible refine Nat.le_trans ?_ (Below.size (by assumption)))))⟩

set_option maxHeartbeats 1000000 in
theorem equalInts_nil (a a' : Option Addr) (c c' : Nat) (w : World) :
    Calls Try.prog 18 #[.slice a 0 c, .slice a' 0 c'] w fun e w' => e = .returned (.bool true) ∧ Below w.heap.size w w' := by
  go_enter Try.func18, Try.ntmps18
  go_wp2
  go_rounds 1
  go_ret
  exact ⟨rfl, by (repeat' (first | (with_reducible exact Below.refl _ _) | (with_reducible assumption) | (with_reducible refine Below.drewN ?_ _) | (with_reducible refine Below.alloc ?_ ?_ _) | (with_reducible refine Below.drew ?_) | (with_reducible refine Below.setCell ?_ ?_ _) | (with_reducible refine Below.trans ?_ (Below.mono (by assumption) ?_)) | go_size | (with_reducible refine Nat.le_trans ?_ (Below.size (by assumption)))))⟩

theorem equalInts_any (v v' : Value) (xs : List Int) (w : World) (h : ArgI w v xs) (h' : ArgI w v' xs) (hl : xs.length ≤ 1048576) :
    Calls Try.prog 18 #[v, v'] w fun e w' => e = .returned (.bool true) ∧ Below w.heap.size w w' := by
  rcases h with ⟨a, c, rfl, rfl⟩ | ⟨b, o, c, rfl, h⟩
  · rcases h' with ⟨a', c', rfl, _⟩ | ⟨b', o', c', rfl, h'⟩
    · exact equalInts_nil a a' c c' w
    · exact equalInts_nil a _ c c' w
  · rcases h' with ⟨a', c', rfl, rfl⟩ | ⟨b', o', c', rfl, h'⟩
    · exact equalInts_nil _ a' c c' w
    · exact equalInts_row b o c b' o' c' xs w h h' hl

theorem mut_arg {w : World} {base n : Nat} {v : Value} {L : List Int} (h : Mut 3 w base v n (ic L)) (hn : n = L.length) : ∃ A c, v = .slice A n c ∧ ArgI w v L := by
  rcases h with ⟨rfl, h1, h2⟩ | ⟨g, cap, rfl, h1, h2⟩
  · have : L = [] := List.eq_nil_of_length_eq_zero (by omega)
    subst h1
    exact ⟨none, 0, rfl, .inl ⟨none, 0, rfl, this⟩⟩
  · exact ⟨_, cap, rfl, .inr ⟨g, 0, cap, by rw [hn], h2.row⟩⟩

theorem mut_row {w : World} {base n : Nat} {v : Value} {L : List Int} (h : Mut 3 w base v n (ic L)) (hn : n = L.length) (h1 : 1 ≤ n) : ∃ g c, v = .slice (some ⟨g, 0, none⟩) n c ∧ RowI w g 0 L := by
  rcases h with ⟨rfl, h0, h2⟩ | ⟨g, cap, rfl, h0, h2⟩
  · omega
  · exact ⟨g, cap, rfl, h2.row⟩

end Go.Proofs.Ytpcnjkgoehepaaa
