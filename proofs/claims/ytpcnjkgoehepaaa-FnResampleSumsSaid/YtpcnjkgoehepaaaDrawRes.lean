/- The generator spec.DrawResampleSums: one row of the call's own. -/
import Derived.Test.YtpcnjkgoehepaaaDataOf
import Derived.Deep.DeepCutAuto
namespace Go.Proofs.Ytpcnjkgoehepaaa
open Go.RowKit

set_option maxHeartbeats 1000000 in
theorem drawRes_any (ad : Option Addr) (n c : Nat) (w : World) (h : CodeB w w.heap.size ad n) (hn : n ≤ 9223372036854775807) (hc : n ≤ c) :
    Calls Try.prog 17 #[.slice ad n c] w fun e w' => ∃ g1 c1 xs, e = .returned (.slice (some ⟨g1, 0, none⟩) xs.length c1) ∧ RowI w' g1 0 xs ∧ xs.length ≤ 21 ∧ xs.length ≤ c1 ∧ Below w.heap.size w w' := by
  have H := Lib.hid h
  clear h
  go_enter Try.func17, Try.ntmps17
  go_upto_region 2 with (first
    | (go_at_call 21; refine (newReader_any ad n c _ H.out hn hc).mono ?_; rintro e w1 ⟨g, n', c', rfl, rfl, hr, hb1⟩))
  have hz1 := hb1.size
  have hl1 := hr.blk.lt
  have HR := Lib.hid hr
  have HB1 := Lib.hid hb1
  have h8 := row_made w1 [3, 2, 4, 1, 3, 0, 5]
  have hb9 : Below w1.heap.size w1 (w1.alloc (.cells (ic [3, 2, 4, 1, 3, 0, 5]).toArray 3)) := below_alloc
  have hb8 : ∀ k, k < 7 → gi [3, 2, 4, 1, 3, 0, 5] k ≤ 10 := by decide
  clear hr hb1
  go_wp2_with (first
    | (go_at_call 22; refine (one_any w.heap.size n' c' w1.heap.size 0 7 ad 0 [3, 2, 4, 1, 3, 0, 5] _ (HR.out.below hb9) h8 (by omega) (by omega) (by simp) (by simp)).mono ?_; rintro e w4 ⟨k0, hk0, rfl, hr4, hg4⟩; have hm8 := hb8 k0 hk0; have hz4 := hg4.size; have HG4 := Lib.hid (grown_trans (grown_of_below (some w.heap.size) hb9) hg4))
    | (go_at_call 37; refine (dataOf_any w.heap.size n' c' ad _ _ _ hr4 (by omega) hm8).mono ?_; rintro e w5 ⟨g1, c1, xs, p', rfl, ho, hl, hp', hr, hg⟩))
  go_ret
  exact ⟨g1, c1, xs, rfl, ho.row, hl, ho.cap, HB1.out.grown (grown_trans HG4.out hg) hz1 (fun k hk => by have := Option.some.inj hk; omega)⟩

end Go.Proofs.Ytpcnjkgoehepaaa
