/- math/bits.OnesCount at small numbers. -/
import Derived.Test.YtclfjnoedcimiaaProg
import Derived.Test.YtclfjnoedcimiaaBase
import Derived.WalkKit
import Derived.WalkSpells
import Derived.WalkLawsBesides
import Derived.Handy
namespace Go.Proofs.Ytclfjnoedcimiaa
open Go.RowKit

/-- How many of the first i bits of s are 1. -/
def cntN (s : Nat) : Nat → Nat
  | 0 => 0
  | i + 1 => cntN s i + s / 2 ^ i % 2

set_option maxHeartbeats 1000000 in
set_option maxRecDepth 100000 in
theorem ones64_any (s : Nat) (w : World) (hs : s < 64) :
    Calls Try.prog 59 #[.int .u64 s] w fun e w' => e = .returned (.int .i64 (cntN s 6 : Nat)) ∧ w = w' := by
  obtain ⟨x, hx⟩ : ∃ x : Int, (s : Int) = x := ⟨_, rfl⟩
  have h0 : 0 ≤ x := by omega
  have h1 : x < 64 := by omega
  obtain ⟨r, hr⟩ : ∃ r : Int, ((cntN s 6 : Nat) : Int) = r := ⟨_, rfl⟩
  rw [hx, hr]
  have HX := Lib.hid hx
  have HR := Lib.hid hr
  clear hx hr hs
  go_enter Try.func59, Try.ntmps59
  go_wp2
  go_ret
  refine ⟨?_, rfl⟩
  show Ending.returned (.int .i64 _) = _
  refine congrArg (fun z => Ending.returned (.int .i64 z)) ?_
  have hx := HX.out
  have hr := HR.out
  subst hx hr
  have hs : s < 64 := by omega
  clear h0 h1 HX HR
  revert hs
  revert s
  decide +kernel

set_option maxHeartbeats 1000000 in
theorem ones_any (s : Nat) (w : World) (hs : s < 64) :
    Calls Try.prog 36 #[.int .u64 s] w fun e w' => e = .returned (.int .i64 (cntN s 6 : Nat)) ∧ w = w' := by
  have C := Lib.hid (ones64_any s w hs)
  obtain ⟨r, hr⟩ : ∃ r, cntN s 6 = r := ⟨_, rfl⟩
  rw [hr] at C ⊢
  clear hr
  go_enter Try.func36, Try.ntmps36
  go_wp2_with (go_at_call 59; refine C.out.mono ?_; rintro e w1 ⟨rfl, rfl⟩)
  go_ret
  exact ⟨rfl, rfl⟩

end Go.Proofs.Ytclfjnoedcimiaa
