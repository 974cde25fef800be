/- The laws' draws of gaps. -/
import Derived.Test.YtclfjnoedcimiaaGapGen
namespace Go.Proofs.Ytclfjnoedcimiaa
open Go.RowKit

/-- Rows of the call's own. -/
def DrawnG (w w' : World) (v : Value) : Prop := ∃ (g c : Nat) (H C : Nat → Nat) (xss : List (List Int)), v = .slice (some ⟨g, 0, none⟩) xss.length c ∧ xss.length ≤ 6 ∧ MatC w' g H C xss ∧ Below w.heap.size w w'
theorem drawnG_of {w w1 w2 : World} {g1 c1 k m : Nat} (hb1 : Below w.heap.size w w1) (hm : GM w2 w1.heap.size g1 c1 k m) (hk : k ≤ 6) (hg : w1.grownBy w2 (some w.heap.size)) : DrawnG w w2 (.slice (some ⟨g1, 0, none⟩) k c1) := by
  obtain ⟨H, C, xss, h1, h2, h3⟩ := hm.mat
  exact ⟨g1, c1, H, C, xss, by rw [h2], by omega, h1, hb1.grown hg hb1.size (fun k hk => by have := Option.some.inj hk; omega)⟩

theorem drawJoinsOf_any (ad : Option Addr) (n c : Nat) (w : World) (h : CodeB w w.heap.size ad n) (hn : n ≤ 9223372036854775807) (hc : n ≤ c) :
    Calls Try.prog 12 #[.slice ad n c] w fun e w' => ∃ v, e = .returned v ∧ DrawnG w w' v := by
  have H := Lib.hid h
  clear h
  go_enter Try.func12, Try.ntmps12
  go_wp2_with (first
    | (go_at_call 32; refine (newReader_any ad n c _ H.out hn hc).mono ?_; rintro e w1 ⟨g, n', c', rfl, rfl, hr, hb1⟩)
    | (go_at_call 33; refine (someGaps_any _ n' c' ad _ hr).mono ?_; rintro e w2 ⟨g1, c1, k, m, p', rfl, hk, hm, hp', hr', hg⟩))
  go_ret
  exact ⟨_, rfl, drawnG_of hb1 hm hk hg⟩

theorem drawFarJoins_any (ad : Option Addr) (n c : Nat) (w : World) (h : CodeB w w.heap.size ad n) (hn : n ≤ 9223372036854775807) (hc : n ≤ c) :
    Calls Try.prog 18 #[.slice ad n c] w fun e w' => ∃ v, e = .returned v ∧ DrawnG w w' v := by
  have H := Lib.hid h
  clear h
  go_enter Try.func18, Try.ntmps18
  go_wp2_with (first
    | (go_at_call 32; refine (newReader_any ad n c _ H.out hn hc).mono ?_; rintro e w1 ⟨g, n', c', rfl, rfl, hr, hb1⟩)
    | (go_at_call 33; refine (someGaps_any _ n' c' ad _ hr).mono ?_; rintro e w2 ⟨g1, c1, k, m, p', rfl, hk, hm, hp', hr', hg⟩))
  go_ret
  exact ⟨_, rfl, drawnG_of hb1 hm hk hg⟩

set_option maxHeartbeats 1000000 in
theorem drawCentersOf_any (ad : Option Addr) (n c : Nat) (w : World) (h : CodeB w w.heap.size ad n) (hn : n ≤ 9223372036854775807) (hc : n ≤ c) :
    Calls Try.prog 9 #[.slice ad n c] w fun e w' => ∃ v k, e = .returned (.tuple #[v, .int .i64 k]) ∧ (0 ≤ k ∧ k ≤ 7) ∧ DrawnG w w' v := by
  have H := Lib.hid h
  clear h
  have hb7 : ∀ k, k < 7 → 0 ≤ gi [2, 1, 3, 4, 6, 0, 7] k ∧ gi [2, 1, 3, 4, 6, 0, 7] k ≤ 7 := by decide
  go_enter Try.func9, Try.ntmps9
  go_upto_region 2 with (go_at_call 32; refine (newReader_any ad n c _ H.out hn hc).mono ?_; rintro e w1 ⟨g, n', c', rfl, rfl, hr, hb1⟩)
  have h8 := fun w : World => row_made w [2, 1, 3, 4, 6, 0, 7]
  go_wp2_with (first
    | (go_at_call 33; refine (someGaps_any _ n' c' ad _ hr).mono ?_; rintro e w2 ⟨g1, c1, k, m, p', rfl, hk, hm, hp', hr', hg⟩; have hba : Below w2.heap.size w2 (w2.alloc (.cells (ic [2, 1, 3, 4, 6, 0, 7]).toArray 3)) := below_alloc; have hlt := hr'.blk.lt)
    | (go_at_call 34; refine (one_any _ n' c' w2.heap.size 0 7 ad p' [2, 1, 3, 4, 6, 0, 7] _ (hr'.below hba) (h8 w2) (by omega) (by omega) (by simp) (by simp)).mono ?_; rintro e w4 ⟨k0, hk0, rfl, hr4, hg4⟩))
  go_ret2
  have hz := hb1.size
  have hlt1 := hr.blk.lt
  exact ⟨_, _, rfl, hb7 k0 hk0, drawnG_of hb1 ((hm.below hba).grown hg4 hlt1) hk (grown_trans (grown_trans hg (grown_of_below _ hba)) hg4)⟩

end Go.Proofs.Ytclfjnoedcimiaa
