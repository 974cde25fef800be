/- impl.sorted: the numbers by size. -/
import Derived.Test.YtfbccnameppikaaShelf
import Derived.Test.YtfbccnameppikaaAppS
import Derived.Test.YtfbccnameppikaaTab
import Derived.Sort.OwnSortedInts
import Derived.Deep.AppendLies
namespace Go.Proofs.Ytfbccnameppikaa
open Go.RowKit Go.Sort

theorem srt_merge (xs : List Int) : (xs.mergeSort fun x y => decide (x ≤ y)) = srt xs :=
  srt_eq (List.mergeSort_perm xs _) (by
    have := List.pairwise_mergeSort (le := fun x y : Int => decide (x ≤ y)) (fun a b c h1 h2 => by simp at h1 h2 ⊢; omega) (fun a b => by simp; omega) xs
    exact this.imp fun h => by simpa using h)

theorem sort_own (base g cap : Nat) (xs : List Int) (w : World) (h : OwnI w base (.slice (some ⟨g, 0, none⟩) xs.length cap) xs.length xs) (hl : xs.length ≤ 1000000) :
    Calls Try.prog 65 #[.slice (some ⟨g, 0, none⟩) xs.length cap] w
      fun e w' => e = .returned (.tuple #[]) ∧ OwnI w' base (.slice (some ⟨g, 0, none⟩) xs.length cap) xs.length (srt xs) ∧ w.grownBy w' (some g) := by
  have h0 := h
  rcases h.2 with ⟨h1, _⟩ | ⟨g', cap', cur, hv, hb, hg, hnc, hcm, hcs, htake⟩
  · cases h1
  · cases hv
    rw [Nat.mul_one] at htake
    refine (sh_slices_Sort_int g 0 cap xs w (holds_of_blockI hg htake) (Array.getElem?_eq_some_iff.1 hg).1 (by omega)).mono ?_
    rintro e w' ⟨rfl, n, os, rfl⟩
    refine ⟨rfl, ?_, grownBy_sortedI _⟩
    have := ownsRow_sortedI (os := os) (n := n) (base := base) (ss := xs) (ts := xs.mergeSort fun x y => decide (x ≤ y)) (List.length_mergeSort xs) hb hg hnc hcm (by omega)
    rw [srt_merge] at this ⊢
    unfold OwnI
    exact this

theorem clone_own (b o c : Nat) (xs : List Int) (w : World) (h : RowI w b o xs) (hl : xs.length ≤ 1000000) (hn0 : 1 ≤ xs.length) :
    Calls Try.prog 64 #[.slice (some ⟨b, o, none⟩) xs.length c] w
      fun e w' => ∃ g cap, e = .returned (.slice (some ⟨g, 0, none⟩) xs.length cap) ∧ OwnI w' w.heap.size (.slice (some ⟨g, 0, none⟩) xs.length cap) xs.length xs ∧ Below w.heap.size w w' := by
  refine (sh_slices_Clone_int b o xs.length c xs w (Nat.le_refl _) (by omega) h.cell).mono ?_
  rintro e w' ⟨v, rfl, ho, hne, hb⟩
  rw [List.take_length] at ho
  obtain ⟨g, cap, rfl, _, _⟩ := World.ownsRow.form ho (by omega)
  exact ⟨g, cap, rfl, ho, hb⟩

set_option maxHeartbeats 400000 in
theorem sorted_any (b o c : Nat) (xs : List Int) (w : World) (h : RowI w b o xs) (hl : xs.length ≤ 1000000) (hn0 : 1 ≤ xs.length) :
    Calls Try.prog 60 #[.slice (some ⟨b, o, none⟩) xs.length c] w
      fun e w' => ∃ g cap, e = .returned (.slice (some ⟨g, 0, none⟩) xs.length cap) ∧ OwnI w' w.heap.size (.slice (some ⟨g, 0, none⟩) xs.length cap) xs.length (srt xs) ∧ Below w.heap.size w w' := by
  have HC := Lib.hid (clone_own b o c xs w h hl hn0)
  clear h
  go_enter Try.func60, Try.ntmps60
  go_wp2_with (first
    | (go_at_call 64; refine HC.out.mono ?_; rintro e w1 ⟨g, cap, rfl, ho, hb⟩; have HO := Lib.hid ho; have HB := Lib.hid hb; clear ho hb)
    | (go_at_call 65; refine (sort_own w.heap.size g cap xs w1 HO.out hl).mono ?_; rintro e w2 ⟨rfl, ho2, hg2⟩; have HO2 := Lib.hid ho2; have HG2 := Lib.hid hg2; clear ho2 hg2))
  go_ret
  exact ⟨g, cap, rfl, HO2.out, HB.out.grown HG2.out HB.out.size (fun k hk => by cases hk; exact (Blk.of_own HO.out).2)⟩

set_option maxHeartbeats 400000 in
theorem sorted_none (A : Option Addr) (c : Nat) (w : World) :
    Calls Try.prog 60 #[.slice A 0 c] w fun e w' => ∃ A' c', e = .returned (.slice A' 0 c') ∧ Below w.heap.size w w' := by
  have HC0 : Calls Try.prog 64 #[.slice A 0 c] w fun e w' => ∃ A' c', e = .returned (.slice A' 0 c') ∧ Below w.heap.size w w' := by
    cases A with
    | none =>
      refine (sh_slices_Clone_int_nil 0 c w).mono ?_
      rintro e w' ⟨rfl, rfl⟩
      exact ⟨_, _, rfl, Below.refl _ _⟩
    | some a =>
      refine (sh_slices_Clone_int_zero a c w).mono ?_
      rintro e w' ⟨v, rfl, ho, hne, hb⟩
      rcases ho.2 with ⟨h1, _⟩ | ⟨g', cap', cur, hv, _⟩
      · exact absurd h1 hne
      · exact ⟨_, _, by rw [hv], hb⟩
  have HC := Lib.hid HC0
  clear HC0
  go_enter Try.func60, Try.ntmps60
  go_wp2_with (first
    | (go_at_call 64; refine HC.out.mono ?_; rintro e w1 ⟨A1, c1, rfl, hb⟩; have HB := Lib.hid hb; clear hb)
    | (go_at_call 65; refine (sh_slices_Sort_int_none A1 c1 w1).mono ?_; rintro e w2 ⟨rfl, rfl⟩))
  go_ret
  exact ⟨_, _, rfl, HB.out⟩

end Go.Proofs.Ytfbccnameppikaa
