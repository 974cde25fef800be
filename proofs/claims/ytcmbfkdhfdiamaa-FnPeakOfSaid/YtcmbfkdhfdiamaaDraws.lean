/- The generators of numbers with weights. -/
import Derived.Test.YtcmbfkdhfdiamaaLoadsGen
namespace Go.Proofs.Ytcmbfkdhfdiamaa
open Go.RowKit

/-- Two rows of the call's own, of at most nine numbers each. -/
def Drawn (w : World) (e : Ending) (w' : World) : Prop := ∃ g1 c1 g2 c2 xs ws,
  e = .returned (.tuple #[.slice (some ⟨g1, 0, none⟩) xs.length c1, .slice (some ⟨g2, 0, none⟩) ws.length c2]) ∧ w.heap.size ≤ g1 ∧ w.heap.size ≤ g2 ∧ RowI w' g1 0 xs ∧ RowI w' g2 0 ws ∧
    (xs.length ≤ 9 ∧ xs.length ≤ c1) ∧ (ws.length ≤ 9 ∧ ws.length ≤ c2) ∧ Below w.heap.size w w'

theorem drawBlocksOf_any (ad : Option Addr) (n c : Nat) (w : World) (h : CodeB w w.heap.size ad n) (hn : n ≤ 9223372036854775807) (hc : n ≤ c) :
    Calls Try.prog 15 #[.slice ad n c] w (Drawn w) := by
  have H := Lib.hid h
  clear h
  go_enter Try.func15, Try.ntmps15
  go_wp2_with (first
    | (go_at_call 61; refine (newReader_any ad n c _ H.out hn hc).mono ?_; rintro e w1 ⟨g, n', c', rfl, rfl, hr, hb1⟩; have hz1 := hb1.size; have hl1 := hr.blk.lt)
    | (go_at_call 60; refine (someLoads_any _ n' c' ad _ hr).mono ?_; rintro e w2 ⟨g1, c1, g2, c2, xs, ws, rfl, k1, k2, r1, r2, l1, l2, hg⟩))
  go_ret2
  exact ⟨g1, c1, g2, c2, xs, ws, rfl, by omega, by omega, r1, r2, l1, l2, hb1.grown hg hz1 (fun k hk => by have := Option.some.inj hk; omega)⟩

theorem drawRiseByHull_any (ad : Option Addr) (n c : Nat) (w : World) (h : CodeB w w.heap.size ad n) (hn : n ≤ 9223372036854775807) (hc : n ≤ c) :
    Calls Try.prog 27 #[.slice ad n c] w (Drawn w) := by
  have H := Lib.hid h
  clear h
  go_enter Try.func27, Try.ntmps27
  go_wp2_with (first
    | (go_at_call 61; refine (newReader_any ad n c _ H.out hn hc).mono ?_; rintro e w1 ⟨g, n', c', rfl, rfl, hr, hb1⟩; have hz1 := hb1.size; have hl1 := hr.blk.lt)
    | (go_at_call 60; refine (someLoads_any _ n' c' ad _ hr).mono ?_; rintro e w2 ⟨g1, c1, g2, c2, xs, ws, rfl, k1, k2, r1, r2, l1, l2, hg⟩))
  go_ret2
  exact ⟨g1, c1, g2, c2, xs, ws, rfl, by omega, by omega, r1, r2, l1, l2, hb1.grown hg hz1 (fun k hk => by have := Option.some.inj hk; omega)⟩

theorem drawRiseByMeans_any (ad : Option Addr) (n c : Nat) (w : World) (h : CodeB w w.heap.size ad n) (hn : n ≤ 9223372036854775807) (hc : n ≤ c) :
    Calls Try.prog 42 #[.slice ad n c] w (Drawn w) := by
  have H := Lib.hid h
  clear h
  go_enter Try.func42, Try.ntmps42
  go_wp2_with (first
    | (go_at_call 61; refine (newReader_any ad n c _ H.out hn hc).mono ?_; rintro e w1 ⟨g, n', c', rfl, rfl, hr, hb1⟩; have hz1 := hb1.size; have hl1 := hr.blk.lt)
    | (go_at_call 60; refine (someLoads_any _ n' c' ad _ hr).mono ?_; rintro e w2 ⟨g1, c1, g2, c2, xs, ws, rfl, k1, k2, r1, r2, l1, l2, hg⟩))
  go_ret2
  exact ⟨g1, c1, g2, c2, xs, ws, rfl, by omega, by omega, r1, r2, l1, l2, hb1.grown hg hz1 (fun k hk => by have := Option.some.inj hk; omega)⟩

theorem drawRiseMiss_any (ad : Option Addr) (n c : Nat) (w : World) (h : CodeB w w.heap.size ad n) (hn : n ≤ 9223372036854775807) (hc : n ≤ c) :
    Calls Try.prog 48 #[.slice ad n c] w (Drawn w) := by
  have H := Lib.hid h
  clear h
  go_enter Try.func48, Try.ntmps48
  go_wp2_with (first
    | (go_at_call 61; refine (newReader_any ad n c _ H.out hn hc).mono ?_; rintro e w1 ⟨g, n', c', rfl, rfl, hr, hb1⟩; have hz1 := hb1.size; have hl1 := hr.blk.lt)
    | (go_at_call 60; refine (someLoads_any _ n' c' ad _ hr).mono ?_; rintro e w2 ⟨g1, c1, g2, c2, xs, ws, rfl, k1, k2, r1, r2, l1, l2, hg⟩))
  go_ret2
  exact ⟨g1, c1, g2, c2, xs, ws, rfl, by omega, by omega, r1, r2, l1, l2, hb1.grown hg hz1 (fun k hk => by have := Option.some.inj hk; omega)⟩

theorem drawRiseByBlocks_any (ad : Option Addr) (n c : Nat) (w : World) (h : CodeB w w.heap.size ad n) (hn : n ≤ 9223372036854775807) (hc : n ≤ c) :
    Calls Try.prog 51 #[.slice ad n c] w (Drawn w) := by
  have H := Lib.hid h
  clear h
  go_enter Try.func51, Try.ntmps51
  go_wp2_with (first
    | (go_at_call 61; refine (newReader_any ad n c _ H.out hn hc).mono ?_; rintro e w1 ⟨g, n', c', rfl, rfl, hr, hb1⟩; have hz1 := hb1.size; have hl1 := hr.blk.lt)
    | (go_at_call 60; refine (someLoads_any _ n' c' ad _ hr).mono ?_; rintro e w2 ⟨g1, c1, g2, c2, xs, ws, rfl, k1, k2, r1, r2, l1, l2, hg⟩))
  go_ret2
  exact ⟨g1, c1, g2, c2, xs, ws, rfl, by omega, by omega, r1, r2, l1, l2, hb1.grown hg hz1 (fun k hk => by have := Option.some.inj hk; omega)⟩

theorem drawPeakOf_any (ad : Option Addr) (n c : Nat) (w : World) (h : CodeB w w.heap.size ad n) (hn : n ≤ 9223372036854775807) (hc : n ≤ c) :
    Calls Try.prog 53 #[.slice ad n c] w (Drawn w) := by
  have H := Lib.hid h
  clear h
  go_enter Try.func53, Try.ntmps53
  go_wp2_with (first
    | (go_at_call 61; refine (newReader_any ad n c _ H.out hn hc).mono ?_; rintro e w1 ⟨g, n', c', rfl, rfl, hr, hb1⟩; have hz1 := hb1.size; have hl1 := hr.blk.lt)
    | (go_at_call 60; refine (someLoads_any _ n' c' ad _ hr).mono ?_; rintro e w2 ⟨g1, c1, g2, c2, xs, ws, rfl, k1, k2, r1, r2, l1, l2, hg⟩))
  go_ret2
  exact ⟨g1, c1, g2, c2, xs, ws, rfl, by omega, by omega, r1, r2, l1, l2, hb1.grown hg hz1 (fun k hk => by have := Option.some.inj hk; omega)⟩

end Go.Proofs.Ytcmbfkdhfdiamaa
