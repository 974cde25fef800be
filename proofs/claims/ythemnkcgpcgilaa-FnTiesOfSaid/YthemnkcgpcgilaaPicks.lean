/- The generators of data: one row, or two rows, of the call's own. -/
import Derived.Test.YthemnkcgpcgilaaDataOf
namespace Go.Proofs.Ythemnkcgpcgilaa
open Go.RowKit

set_option maxHeartbeats 1000000 in
theorem someData_any (g n c : Nat) (ad : Option Addr) (p : Int) (w : World) (h : Rdr w g ad n c p) (hp : p ≤ 900) :
    Calls Try.prog 56 #[.pointer (some ⟨g, 0, none⟩)] w fun e w' => ∃ g1 c1 xs p',
      e = .returned (.slice (some ⟨g1, 0, none⟩) xs.length c1) ∧ OwnI w' w.heap.size (.slice (some ⟨g1, 0, none⟩) xs.length c1) xs.length xs ∧ xs.length ≤ 21 ∧ p' ≤ p + 21 ∧ Rdr w' g ad n c p' ∧ w.grownBy w' (some g) := by
  have hgl := h.blk.lt
  have HR := Lib.hid h
  have h8 := row_made w [4, 5, 6, 3, 2, 8, 1, 0, 10]
  have hb9 : Below w.heap.size w (w.alloc (.cells (ic [4, 5, 6, 3, 2, 8, 1, 0, 10]).toArray 3)) := below_alloc
  have hb8 : ∀ k, k < 9 → gi [4, 5, 6, 3, 2, 8, 1, 0, 10] k ≤ 10 := by decide
  clear h
  go_enter Try.func56, Try.ntmps56
  go_wp2_with (first
    | (go_at_call 84; refine (one_any g n c w.heap.size 0 9 ad p [4, 5, 6, 3, 2, 8, 1, 0, 10] _ (HR.out.below hb9) h8 (by omega) (by omega) (by simp) (by simp)).mono ?_; rintro e w4 ⟨k0, hk0, rfl, hr4, hg4⟩; have hm8 := hb8 k0 hk0; have hz4 := hg4.size; have HG4 := Lib.hid (grown_trans (grown_of_below (some g) hb9) hg4))
    | (go_at_call 83; refine (dataOf_any g n c ad _ _ _ hr4 (by omega) hm8).mono ?_; rintro e w5 ⟨g1, c1, xs, p', rfl, ho, hl, hp', hr, hg⟩))
  go_ret
  have hz9 := HG4.out.size
  exact ⟨g1, c1, xs, p', rfl, own_mono ho hz9, hl, by omega, hr, grown_trans HG4.out hg⟩

/-- A row of the call's own, of at most 21 numbers. -/
def Picked (w : World) (e : Ending) (w' : World) : Prop := ∃ g1 c1 xs,
  e = .returned (.slice (some ⟨g1, 0, none⟩) xs.length c1) ∧ RowI w' g1 0 xs ∧ xs.length ≤ 21 ∧ xs.length ≤ c1 ∧ Below w.heap.size w w'

theorem drawMiddleOf_any (ad : Option Addr) (n c : Nat) (w : World) (h : CodeB w w.heap.size ad n) (hn : n ≤ 9223372036854775807) (hc : n ≤ c) :
    Calls Try.prog 27 #[.slice ad n c] w (Picked w) := by
  have H := Lib.hid h
  clear h
  go_enter Try.func27, Try.ntmps27
  go_wp2_with (first
    | (go_at_call 57; refine (newReader_any ad n c _ H.out hn hc).mono ?_; rintro e w1 ⟨g, n', c', rfl, rfl, hr, hb1⟩; have hz1 := hb1.size; have hl1 := hr.blk.lt)
    | (go_at_call 56; refine (someData_any _ n' c' ad _ _ hr (by omega)).mono ?_; rintro e w2 ⟨g1, c1, xs, p', rfl, ho, hl, hp', hr', hg⟩))
  go_ret
  exact ⟨g1, c1, xs, rfl, ho.row, hl, ho.cap, hb1.grown hg hz1 (fun k hk => by have := Option.some.inj hk; omega)⟩

theorem drawPairMiddle_any (ad : Option Addr) (n c : Nat) (w : World) (h : CodeB w w.heap.size ad n) (hn : n ≤ 9223372036854775807) (hc : n ≤ c) :
    Calls Try.prog 30 #[.slice ad n c] w (Picked w) := by
  have H := Lib.hid h
  clear h
  go_enter Try.func30, Try.ntmps30
  go_wp2_with (first
    | (go_at_call 57; refine (newReader_any ad n c _ H.out hn hc).mono ?_; rintro e w1 ⟨g, n', c', rfl, rfl, hr, hb1⟩; have hz1 := hb1.size; have hl1 := hr.blk.lt)
    | (go_at_call 56; refine (someData_any _ n' c' ad _ _ hr (by omega)).mono ?_; rintro e w2 ⟨g1, c1, xs, p', rfl, ho, hl, hp', hr', hg⟩))
  go_ret
  exact ⟨g1, c1, xs, rfl, ho.row, hl, ho.cap, hb1.grown hg hz1 (fun k hk => by have := Option.some.inj hk; omega)⟩

theorem drawTiesOf_any (ad : Option Addr) (n c : Nat) (w : World) (h : CodeB w w.heap.size ad n) (hn : n ≤ 9223372036854775807) (hc : n ≤ c) :
    Calls Try.prog 32 #[.slice ad n c] w (Picked w) := by
  have H := Lib.hid h
  clear h
  go_enter Try.func32, Try.ntmps32
  go_wp2_with (first
    | (go_at_call 57; refine (newReader_any ad n c _ H.out hn hc).mono ?_; rintro e w1 ⟨g, n', c', rfl, rfl, hr, hb1⟩; have hz1 := hb1.size; have hl1 := hr.blk.lt)
    | (go_at_call 56; refine (someData_any _ n' c' ad _ _ hr (by omega)).mono ?_; rintro e w2 ⟨g1, c1, xs, p', rfl, ho, hl, hp', hr', hg⟩))
  go_ret
  exact ⟨g1, c1, xs, rfl, ho.row, hl, ho.cap, hb1.grown hg hz1 (fun k hk => by have := Option.some.inj hk; omega)⟩


/-- Two rows of the call's own, of at most 21 numbers each. -/
def Picked2 (w : World) (e : Ending) (w' : World) : Prop := ∃ g1 c1 g2 c2 xs ws,
  e = .returned (.tuple #[.slice (some ⟨g1, 0, none⟩) xs.length c1, .slice (some ⟨g2, 0, none⟩) ws.length c2]) ∧ RowI w' g1 0 xs ∧ RowI w' g2 0 ws ∧
    (xs.length ≤ 21 ∧ xs.length ≤ c1) ∧ (ws.length ≤ 21 ∧ ws.length ≤ c2) ∧ Below w.heap.size w w'

set_option maxHeartbeats 1000000 in
theorem twoSamples_any (g n c : Nat) (ad : Option Addr) (p : Int) (w : World) (h : Rdr w g ad n c p) (hp : p ≤ 900) :
    Calls Try.prog 58 #[.pointer (some ⟨g, 0, none⟩)] w fun e w' => ∃ g1 c1 g2 c2 xs ws p',
      e = .returned (.tuple #[.slice (some ⟨g1, 0, none⟩) xs.length c1, .slice (some ⟨g2, 0, none⟩) ws.length c2]) ∧ RowI w' g1 0 xs ∧ RowI w' g2 0 ws ∧
    (xs.length ≤ 21 ∧ xs.length ≤ c1) ∧ (ws.length ≤ 21 ∧ ws.length ≤ c2) ∧ p' ≤ p + 42 ∧ Rdr w' g ad n c p' ∧ w.grownBy w' (some g) := by
  have hgl := h.blk.lt
  have HR := Lib.hid h
  have h8 := row_made w [3, 2, 4, 1, 5, 0]
  have hb9 : Below w.heap.size w (w.alloc (.cells (ic [3, 2, 4, 1, 5, 0]).toArray 3)) := below_alloc
  have hb8 : ∀ k, k < 6 → gi [3, 2, 4, 1, 5, 0] k ≤ 10 := by decide
  have hb7 : ∀ k, k < 7 → gi [3, 4, 2, 1, 5, 0, 6] k ≤ 10 := by decide
  clear h
  go_enter Try.func58, Try.ntmps58
  go_upto_region 2 with (first
    | (go_at_call 84; refine (one_any g n c w.heap.size 0 6 ad p [3, 2, 4, 1, 5, 0] _ (HR.out.below hb9) h8 (by omega) (by omega) (by simp) (by simp)).mono ?_; rintro e w4 ⟨k0, hk0, rfl, hr4, hg4⟩; have hm8 := hb8 k0 hk0; have hz4 := hg4.size; have HG4 := Lib.hid (grown_trans (grown_of_below (some g) hb9) hg4))
    | (go_at_call 83; refine (dataOf_any g n c ad _ _ _ hr4 (by omega) hm8).mono ?_; rintro e w5 ⟨g1, c1, xs, p1, rfl, ho, hl, hp', hr, hg⟩; have HG5 := Lib.hid (grown_trans HG4.out hg); have hz5 := hg.size))
  have HX := Lib.hid (show OwnI w5 w.heap.size (.slice (some ⟨g1, 0, none⟩) xs.length c1) xs.length xs from own_mono ho HG4.out.size)
  have HR5 := Lib.hid hr
  have hg1 := (Blk.of_own ho).2
  have z4 := HG4.out.size
  have z5 := HG5.out.size
  have h8' := row_made w5 [3, 4, 2, 1, 5, 0, 6]
  have hb9' : Below w5.heap.size w5 (w5.alloc (.cells (ic [3, 4, 2, 1, 5, 0, 6]).toArray 3)) := below_alloc
  clear ho hr hg hr4 hg4 hm8 hb8 h8 hb9 hk0 HR
  go_wp2_with (first
    | (go_at_call 84; refine (one_any g n c w5.heap.size 0 7 ad p1 [3, 4, 2, 1, 5, 0, 6] _ (HR5.out.below hb9') h8' (by omega) (by omega) (by simp) (by simp)).mono ?_; rintro e w6 ⟨k0, hk0, rfl, hr6, hg6⟩; have hm8 := hb7 k0 hk0; have HG6 := Lib.hid (grown_trans (grown_of_below (some g) hb9') hg6))
    | (go_at_call 83; refine (dataOf_any g n c ad _ _ _ hr6 (by omega) hm8).mono ?_; rintro e w7 ⟨g2, c2, ws, p2, rfl, ho7, hl7, hp7, hr7, hg7⟩))
  go_ret2
  have hG := grown_trans HG6.out hg7
  have hne : (Value.slice (some ⟨g1, 0, none⟩) xs.length c1).ownBlock ≠ some g := by simp [Value.ownBlock]; omega
  have HX2 : OwnI w7 w.heap.size (.slice (some ⟨g1, 0, none⟩) xs.length c1) xs.length xs := OwnI.grown HX.out hG hne
  exact ⟨g1, c1, g2, c2, xs, ws, p2, rfl, HX2.row, ho7.row, ⟨hl, HX2.cap⟩, ⟨hl7, ho7.cap⟩, by omega, hr7, grown_trans HG5.out hG⟩

theorem drawShiftMiddle_any (ad : Option Addr) (n c : Nat) (w : World) (h : CodeB w w.heap.size ad n) (hn : n ≤ 9223372036854775807) (hc : n ≤ c) :
    Calls Try.prog 29 #[.slice ad n c] w (Picked2 w) := by
  have H := Lib.hid h
  clear h
  go_enter Try.func29, Try.ntmps29
  go_wp2_with (first
    | (go_at_call 57; refine (newReader_any ad n c _ H.out hn hc).mono ?_; rintro e w1 ⟨g, n', c', rfl, rfl, hr, hb1⟩; have hz1 := hb1.size; have hl1 := hr.blk.lt)
    | (go_at_call 58; refine (twoSamples_any _ n' c' ad _ _ hr (by omega)).mono ?_; rintro e w2 ⟨g1, c1, g2, c2, xs, ws, p', rfl, r1, r2, l1, l2, hp', hr', hg⟩))
  go_ret2
  exact ⟨g1, c1, g2, c2, xs, ws, rfl, r1, r2, l1, l2, hb1.grown hg hz1 (fun k hk => by have := Option.some.inj hk; omega)⟩
end Go.Proofs.Ythemnkcgpcgilaa
