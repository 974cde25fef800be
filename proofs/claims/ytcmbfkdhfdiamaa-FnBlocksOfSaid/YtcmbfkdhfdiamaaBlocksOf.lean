/- BlocksOf, the program's and the reference's; the mean of a block. -/
import Derived.Test.YtcmbfkdhfdiamaaRbb
import Derived.Test.YtcmbfkdhfdiamaaInc
namespace Go.Proofs.Ytcmbfkdhfdiamaa
open Go.RowKit

/-- The first indices, for numbers with weights; none for others. -/
def blkV (xs ws : List Int) : List Int := if vlB xs ws = true then lst (poolR xs ws xs.length) else []

set_option maxHeartbeats 1000000 in
theorem blocksOf_any (b o c b' o' c' : Nat) (xs ws : List Int) (w : World) (h : RowI w b o xs) (h' : RowI w b' o' ws) (hm : xs.length ≤ 1099511627776) (hm' : ws.length ≤ 1099511627776) :
    Calls Try.prog 16 #[.slice (some ⟨b, o, none⟩) xs.length c, .slice (some ⟨b', o', none⟩) ws.length c'] w
      fun e w' => e = .returned (.slice none 0 0) ∧ vlB xs ws = false ∧ Below w.heap.size w w' ∨ ∃ g, e = .returned (.slice (some ⟨g, 0, none⟩) (poolR xs ws xs.length).length (poolR xs ws xs.length).length) ∧ vlB xs ws = true ∧ w.heap.size ≤ g ∧ RowI w' g 0 (lst (poolR xs ws xs.length)) ∧ Below w.heap.size w w' := by
  have H := Lib.hid h
  have H' := Lib.hid h'
  clear h h'
  cases hv : vlB xs ws with
  | true =>
    have HV := Lib.hid (vl_of hv)
    go_enter Try.func16, Try.ntmps16
    go_wp2_with (first
      | (go_at_call 62; refine (validLoads_any b o c b' o' c' xs ws _ H.out H'.out hm hm').mono ?_; rintro e w1 ⟨rfl, hb1⟩; have hz1 := hb1.size)
      | (go_at_call 63; refine (blocks_any b o c b' o' c' xs ws _ (H.out.below hb1) (H'.out.below hb1) HV.out).mono ?_; rintro e w2 ⟨g, rfl, hg, hr2, hb2⟩))
    go_ret
    exact .inr ⟨g, rfl, by trivial, by omega, hr2, hb1.trans (hb2.mono hz1)⟩
  | false =>
    go_enter Try.func16, Try.ntmps16
    go_wp2_with (go_at_call 62; refine (validLoads_any b o c b' o' c' xs ws _ H.out H'.out hm hm').mono ?_; rintro e w1 ⟨rfl, hb1⟩; have hz1 := hb1.size)
    go_ret
    exact .inl ⟨rfl, by trivial, hb1⟩

set_option maxHeartbeats 1000000 in
theorem sblocksOf_any (b o c b' o' c' : Nat) (xs ws : List Int) (w : World) (h : RowI w b o xs) (h' : RowI w b' o' ws) (hm : xs.length ≤ 1099511627776) (hm' : ws.length ≤ 1099511627776) :
    Calls Try.prog 18 #[.slice (some ⟨b, o, none⟩) xs.length c, .slice (some ⟨b', o', none⟩) ws.length c'] w
      fun e w' => ∃ v, e = .returned v ∧ ArgI w' v (blkV xs ws) ∧ Below w.heap.size w w' := by
  have H := Lib.hid h
  have H' := Lib.hid h'
  clear h h'
  cases hv : vlB xs ws with
  | true =>
    have HV := Lib.hid (vl_of hv)
    have e : blkV xs ws = lst (poolR xs ws xs.length) := by simp [blkV, hv]
    rw [e]
    clear e
    go_enter Try.func18, Try.ntmps18
    go_wp2_with (first
      | (go_at_call 64; refine (svalidLoads_any b o c b' o' c' xs ws _ H.out H'.out hm hm').mono ?_; rintro e w1 ⟨rfl, rfl⟩)
      | (go_at_call 65; refine (pool_any b o c b' o' c' xs ws _ H.out H'.out HV.out).mono ?_; rintro e w2 ⟨g, cap, rfl, ho, hb2⟩))
    go_ret
    exact ⟨_, rfl, .inr ⟨g, 0, cap, by rw [lst_length]; rfl, ho.row⟩, hb2⟩
  | false =>
    have e : blkV xs ws = [] := by simp [blkV, hv]
    rw [e]
    clear e
    go_enter Try.func18, Try.ntmps18
    go_wp2_with (go_at_call 64; refine (svalidLoads_any b o c b' o' c' xs ws _ H.out H'.out hm hm').mono ?_; rintro e w1 ⟨rfl, rfl⟩)
    go_ret
    exact ⟨_, rfl, .inl ⟨none, 0, rfl, rfl⟩, Below.refl _ _⟩

set_option maxHeartbeats 1000000 in
theorem meanOf_as (b o c b' o' c' : Nat) (xs ws : List Int) (i k : Int) (p : Rat) (w : World) (h : RowI w b o xs) (h' : RowI w b' o' ws) (hv : vlB xs ws = true) (hi : 0 ≤ i) (hik : i ≤ k) (hk : k < xs.length) (hp : mq xs ws i.toNat k.toNat = p) :
    Calls Try.prog 19 #[.slice (some ⟨b, o, none⟩) xs.length c, .slice (some ⟨b', o', none⟩) ws.length c', .int .i64 i, .int .i64 k] w
      fun e w' => e = .returned (.tuple #[.agg #[.int .i64 (up p), .int .i64 (dn p)], .bool true]) ∧ Below w.heap.size w w' := by
  have H := Lib.hid h
  have H' := Lib.hid h'
  have hvl := vl_of hv
  have hn8 := hvl.n8
  have hnw := hvl.nw
  have hnw8 : ws.length ≤ 8 := by omega
  have HV := Lib.hid hvl
  have HP := Lib.hid hp
  have t1 : decide (i < 0) = false := by simp; omega
  have t2 : decide (k < i) = false := by simp; omega
  have t3 : decide ((xs.length : Int) ≤ k) = false := by simp; omega
  clear h h' hvl hp hnw
  go_enter Try.func19, Try.ntmps19
  go_wp2_with (first
    | (go_at_call 62; refine (validLoads_any b o c b' o' c' xs ws _ (H.out.below below_alloc) (H'.out.below below_alloc) (by omega) (by omega)).mono ?_; rw [hv]; rintro e w1 ⟨rfl, hb1⟩; have hz1 := hb1.size; have hk1 := (Blk.made w #[.int .i64 0, .int .i64 0] 29).below hb1; have hbA : Below w.heap.size w w1 := below_alloc.trans (hb1.mono (by simp)))
    | (go_at_call 66; refine (mean_as b o c b' o' c' xs ws _ _ p _ (H.out.below hbA) (H'.out.below hbA) HV.out hi hik hk HP.out).mono ?_; rintro e w2 ⟨rfl, hb2⟩; have hk2 := hk1.below hb2; have x1 := hk2.cell (j := 0) rfl; have x2 := hk2.cell (j := 1) rfl; have f1 := hk2.frozen 0; have f2 := hk2.frozen 1))
  have y1 := (hk2.set 0 (.int .i64 (up p))).cell (j := 0) rfl
  have y2 := ((hk2.set 0 (.int .i64 (up p))).set 1 (.int .i64 (dn p))).cell (j := 1) rfl
  refine bodyPost_ret (v := .tuple #[.agg #[.int .i64 (up p), .int .i64 (dn p)], .bool true]) ?_ rfl ⟨rfl, ?_⟩
  · simp [results, Try.results19, go_sem, y1, y2]
  · exact ((hbA.trans (hb2.mono hbA.size)).setCell (Nat.le_refl _) _).setCell (Nat.le_refl _) _

end Go.Proofs.Ytcmbfkdhfdiamaa
