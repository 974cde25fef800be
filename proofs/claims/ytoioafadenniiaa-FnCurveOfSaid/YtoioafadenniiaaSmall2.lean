/- The laws' own small functions: more of them. -/
import Derived.Test.YtoioafadenniiaaSmall
import Derived.Test.YtoioafadenniiaaFRow
import Derived.Test.YtoioafadenniiaaLFrac
namespace Go.Proofs.Ytoioafadenniiaa
open Go.RowKit


set_option maxHeartbeats 1000000 in
theorem equalFracs_row (g c g' c' n : Nat) (fs : List Rat) (w : World) (h : Blk w g 31 (fc fs)) (h' : Blk w g' 31 (fc fs)) (hn : fs.length = n) (hl : n ≤ 1048576) :
    Calls Try.prog 33 #[.slice (some ⟨g, 0, none⟩) n c, .slice (some ⟨g', 0, none⟩) n c'] w fun e w' => e = .returned (.bool true) ∧ Below w.heap.size w w' := by
  have H := Lib.hid h
  have H' := Lib.hid h'
  have HN := Lib.hid hn
  clear h h' hn
  go_enter Try.func33, Try.ntmps33
  go_wp2
  go_loopw [5] (fun v5 wr => ∃ k : Nat, k ≤ n ∧ v5 = .int .i64 k ∧ Below w.heap.size w wr) (fun v5 _ => n - (intOf v5).toNat)
  case atStart => exact ⟨0, Nat.zero_le _, rfl, Below.refl _ _⟩
  case round =>
    obtain ⟨k, hk, rfl, hb⟩ := hrel
    by_cases hlt : k < n
    · have hkf : k < fs.length := by rw [HN.out]; exact hlt
      have c1 := (H.out.below hb).f0 hkf
      have c2 := (H.out.below hb).f1 hkf
      have c3 := (H'.out.below hb).f0 hkf
      have c4 := (H'.out.below hb).f1 hkf
      clear hkf
      have hz := hb.size
      go_wp2
      go_quiet (fail)
      go_wp2
      go_roundw
      case rel => exact ⟨k + 1, by omega, by go_num, by (repeat' (first | (with_reducible exact Below.refl _ _) | (with_reducible assumption) | (with_reducible refine Below.drewN ?_ _) | (with_reducible refine Below.alloc ?_ ?_ _) | (with_reducible refine Below.drew ?_) | (with_reducible refine Below.setCell ?_ ?_ _) | (with_reducible refine Below.trans ?_ (Below.mono (by assumption) ?_)) | go_size | (with_reducible refine Nat.le_trans ?_ (Below.size (by assumption)))))⟩
      case measure => simp [intOf]; omega
    · go_wp2
      go_ret
      exact ⟨rfl, hb⟩


set_option maxHeartbeats 1000000 in
theorem equalFracs_nil (a a' : Option Addr) (c c' : Nat) (w : World) :
    Calls Try.prog 33 #[.slice a 0 c, .slice a' 0 c'] w fun e w' => e = .returned (.bool true) ∧ Below w.heap.size w w' := by
  go_enter Try.func33, Try.ntmps33
  go_wp2
  go_rounds 1
  go_ret
  exact ⟨rfl, by (repeat' (first | (with_reducible exact Below.refl _ _) | (with_reducible assumption) | (with_reducible refine Below.drewN ?_ _) | (with_reducible refine Below.alloc ?_ ?_ _) | (with_reducible refine Below.drew ?_) | (with_reducible refine Below.setCell ?_ ?_ _) | (with_reducible refine Below.trans ?_ (Below.mono (by assumption) ?_)) | go_size | (with_reducible refine Nat.le_trans ?_ (Below.size (by assumption)))))⟩

theorem equalFracs_any (v v' : Value) (B B' n : Nat) (fs : List Rat) (w : World) (h : Mut 31 w B v n (fc fs)) (h' : Mut 31 w B' v' n (fc fs)) (hn : fs.length = n) (hl : n ≤ 1048576) :
    Calls Try.prog 33 #[v, v'] w fun e w' => e = .returned (.bool true) ∧ Below w.heap.size w w' := by
  rcases h with ⟨rfl, rfl, _⟩ | ⟨g, c, rfl, _, h⟩
  · rcases h' with ⟨rfl, _, _⟩ | ⟨g', c', rfl, _, h'⟩
    · exact equalFracs_nil _ _ _ _ w
    · exact equalFracs_nil _ _ _ _ w
  · rcases h' with ⟨rfl, rfl, _⟩ | ⟨g', c', rfl, _, h'⟩
    · exact equalFracs_nil _ _ _ _ w
    · exact equalFracs_row g c g' c' n fs w h h' hn hl

end Go.Proofs.Ytoioafadenniiaa
