/- slices.Clip of numbers. -/
import Derived.Test.YtpcnjkgoehepaaaToInt
import Derived.Test.YtpcnjkgoehepaaaBlk
namespace Go.Proofs.Ytpcnjkgoehepaaa
open Go.RowKit

set_option maxHeartbeats 400000 in
theorem clipI_any (g n c : Nat) (w : World) (_hn : n ≤ 1099511627776) (hc : n ≤ c) :
    Calls Try.prog 36 #[.slice (some ⟨g, 0, none⟩) n c] w fun e w' => e = .returned (.slice (some ⟨g, 0, none⟩) n n) ∧ w = w' := by
  go_enter Try.func36, Try.ntmps36
  go_wp2
  go_ret
  exact ⟨rfl, rfl⟩
set_option maxHeartbeats 400000 in
theorem clipI_nil (w : World) : Calls Try.prog 36 #[.slice none 0 0] w fun e w' => e = .returned (.slice none 0 0) ∧ w = w' := by
  go_enter Try.func36, Try.ntmps36
  go_wp2
  go_ret
  exact ⟨rfl, rfl⟩
theorem clipI_own (base n : Nat) (v : Value) (L : List Int) (w : World) (h : OwnI w base v n L) (hn : n ≤ 1000000) :
    Calls Try.prog 36 #[v] w fun e w' => ∃ v', e = .returned v' ∧ Mut 3 w base v' n (ic L) ∧ w = w' := by
  rcases h.2 with ⟨rfl, rfl⟩ | ⟨g, cap, cur, rfl, hb, hg, hnc, _⟩
  · refine (clipI_nil w).mono ?_
    rintro e w' ⟨rfl, rfl⟩
    exact ⟨_, rfl, .inl ⟨rfl, rfl, by have := h.len; rw [List.eq_nil_of_length_eq_zero this]; rfl⟩, rfl⟩
  · refine (clipI_any g n cap w (by omega) hnc).mono ?_
    rintro e w' ⟨rfl, rfl⟩
    exact ⟨_, rfl, .inr ⟨g, n, rfl, hb, (Blk.of_own h).1⟩, rfl⟩


end Go.Proofs.Ytpcnjkgoehepaaa
