/- slices.Backward over a row of fractions: what its value hands to a loop, round by round. -/
import Derived.RangeFuncNested
import Derived.RangeFuncBound
import Derived.RangeFuncCalls
import Derived.RangeFuncLeaves
import Derived.Shelf.Abstract
import Derived.Shelf.RegionOpen
import Derived.OwnWalkIn
import Derived.TacticsInMore
import Derived.LoopNIn
import Derived.LoopIn
import Derived.Test.YtoioafadenniiaaCurA
import Derived.Test.YtoioafadenniiaaRoundCnt
namespace Go.Proofs.Ytoioafadenniiaa
open Go.RowKit Go.Shelf

attribute [local go_sem] Oper.semAt_some

/-- A round leaves two blocks as they were. -/
def KpB (b b' : Nat) (W W' : World) : Prop := W'.heap[b]? = W.heap[b]? ∧ W'.heap[b']? = W.heap[b']?
theorem KpB.refl (b b' : Nat) (W : World) : KpB b b' W W := ⟨rfl, rfl⟩
theorem KpB.trans {b b' : Nat} {A B C : World} (h : KpB b b' A B) (k : KpB b b' B C) : KpB b b' A C := ⟨k.1.trans h.1, k.2.trans h.2⟩
theorem kpB_b {b b' : Nat} {w : World} (hb : b < w.heap.size) (hb' : b' < w.heap.size) (W : World) (l : Nat) (o o' : Obj) (hl : w.heap.size ≤ l) (_ : W.heap[l]? = some o) (_ : o.isCells = false) (_ : o.isWalk = false) : KpB b b' W (W.putObj l o') :=
  ⟨World.putObj_heap_other (by omega), World.putObj_heap_other (by omega)⟩
theorem KpB.of_below {b b' : Nat} {W W' : World} (hb : b < W.heap.size) (hb' : b' < W.heap.size) (h : Below W.heap.size W W') : KpB b b' W W' := ⟨h.block b hb, h.block b' hb'⟩

theorem blk_kept {W W' : World} {g : Nat} {e : TypeId} {cs : List Value} {row : Option Nat} (h : Blk W g e cs) (hg : W.grownBy W' row) (hr : ∀ r, row = some r → ∃ o : Obj, W.heap[r]? = some o ∧ o.isCells = false) : Blk W' g e cs := by
  obtain ⟨cur, h1, h2⟩ := h
  exact ⟨cur, (grownBy_keeps_cells hg hr h1 rfl).trans h1, h2⟩
theorem keepsFrom_below {W W' : World} (h : Below W.heap.size W W') (B : Nat) : KeepsFrom B W W' := ⟨h.size, fun k _ _ h0 _ => (h.block k (Array.getElem?_eq_some_iff.1 h0).1).trans h0⟩
theorem kpB_set {b b' : Nat} (W : World) (a : Addr) (v : Value) (h : a.block ≠ b) (h' : a.block ≠ b') : KpB b b' W (W.setCell a v) := ⟨Below.heap_setCell _ a _ b (fun e => h e.symm), Below.heap_setCell _ a _ b' (fun e => h' e.symm)⟩

/-- What round j is handed. -/
def bwE (L : List Rat) (j : Nat) : Array Value := #[.int .i64 ((L.length - 1 - j : Nat) : Int), .agg #[.int .i64 (up (gq L (L.length - 1 - j))), .int .i64 (dn (gq L (L.length - 1 - j)))]]

set_option maxRecDepth 100000 in
set_option maxHeartbeats 2000000 in
theorem bwd1_in (m : Nat) (hm : 1 ≤ m) (l Bs b cap : Nat) (L : List Rat) (hn : L.length ≤ 1000) (J : Nat → World → Prop)
    (hY : ∀ j W, j < L.length → J j W → YieldAt Fence.wide (m - 1) Try.prog l (bwE L j) W fun e W' => e = .returned (.bool true) ∧ J (j + 1) W' ∧ KpB b Bs W W')
    (W : World) (hBs : W.cell? ⟨Bs, 0, none⟩ = some (.slice (some ⟨b, 0, none⟩) L.length cap)) (hc : ∀ j, j < L.length → W.cell? ⟨b, j * 2, none⟩ = some (.int .i64 (up (gq L j))) ∧ W.cell? ⟨b, j * 2 + 1, none⟩ = some (.int .i64 (dn (gq L j)))) (h0 : J 0 W) :
    CallsIn Fence.wide m Try.prog 87 #[.func (.yield l) #[] #[], .pointer (some ⟨Bs, 0, none⟩)] W fun e W' => (∃ v, e = .returned v) ∧ J L.length W' := by
  refine callsIn_of_wp Try.func87 rfl trivial ?_ rfl
  simp only [Try.ntmps87, List.size_toArray, List.length_cons, List.length_nil, Nat.reduceAdd, Nat.reduceSub, Array.replicate_succ, Array.replicate_zero, List.push_toArray, List.append_toArray, List.nil_append, List.cons_append]
  have q0 : IntKind.i64.wrap ((L.length : Int) - 1) = (L.length : Int) - 1 := IntWalk.i64_in _ (by omega)
  gi_wp2
  gi_loopw [3] (fun i wr => ∃ (z : Int) (k : Nat), i = .int .i64 z ∧ (-1 ≤ z ∧ z + 1 + k = L.length) ∧ J k wr ∧ KpB b Bs W wr)
    (fun i _ => (intOf i + 1).toNat)
  case atStart => exact ⟨_, 0, rfl, ⟨by omega, by omega⟩, h0, KpB.refl _ _ _⟩
  case round =>
    obtain ⟨z, k, rfl, ⟨hz0, hz⟩, hJs, hnx⟩ := hrel
    by_cases hlt : 0 ≤ z
    · obtain ⟨j, rfl⟩ : ∃ j : Nat, z = j := ⟨z.toNat, by omega⟩
      have hpl : k < L.length := by omega
      have hjl : L.length - 1 - k = j := by omega
      obtain ⟨fn, tmps, assign, body, hy, hR⟩ := hY k wr hpl hJs
      unfold bwE at hy
      rw [hjl] at hy
      have hjn : (j : Int) < (L.length : Int) := by omega
      have hcx' : wr.cell? ⟨b, j * 2, none⟩ = some (.int .i64 (up (gq L j))) := (World.cell?_of_block (a := ⟨b, j * 2, none⟩) hnx.1).trans (hc j (by omega)).1
      have hcy' : wr.cell? ⟨b, j * 2 + 1, none⟩ = some (.int .i64 (dn (gq L j))) := (World.cell?_of_block (a := ⟨b, j * 2 + 1, none⟩) hnx.1).trans (hc j (by omega)).2
      have hbx' : wr.cell? ⟨Bs, 0, none⟩ = some (.slice (some ⟨b, 0, none⟩) L.length cap) := (World.cell?_of_block (a := ⟨Bs, 0, none⟩) hnx.2).trans hBs
      have q1 : IntKind.i64.wrap ((j : Int) - 1) = (j : Int) - 1 := IntWalk.i64_in _ (by omega)
      have t1 : (0 : Int) ≤ (j : Int) := by omega
      have HZ := Lib.hid hz
      clear hz
      gi_wp2
      refine hR.mono ?_
      rintro e W3 ⟨rfl, hJ3, hk3⟩
      gi_wp2
      go_roundw
      case rel => exact ⟨(j : Int) - 1, k + 1, rfl, ⟨by omega, by have := HZ.out; omega⟩, hJ3, hnx.trans hk3⟩
      case measure => simp [intOf]
    · obtain rfl : k = L.length := by omega
      have t1 : ¬ (0 : Int) ≤ z := hlt
      clear hlt hz
      gi_wp2
      go_end0
      exact ⟨⟨_, rfl⟩, hJs⟩

/-- What slices.Backward gives to a loop. -/
theorem bwd_cnt (m : Nat) (hm : 1 ≤ m) (Bs b cap : Nat) (L : List Rat) (hn : L.length ≤ 1000) (w : World) (hb : b < w.heap.size) (hB : Bs < w.heap.size) (hBs : w.cell? ⟨Bs, 0, none⟩ = some (.slice (some ⟨b, 0, none⟩) L.length cap)) (hc : ∀ j, j < L.length → w.cell? ⟨b, j * 2, none⟩ = some (.int .i64 (up (gq L j))) ∧ w.cell? ⟨b, j * 2 + 1, none⟩ = some (.int .i64 (dn (gq L j)))) :
    Cnt m Try.prog 87 #[.pointer (some ⟨Bs, 0, none⟩)] (bwE L) (KpB b Bs) L.length w := fun l J W hW hY h0 =>
  bwd1_in m hm l Bs b cap L hn J hY W ((hW.cell (p := ⟨Bs, 0, none⟩) hB).trans hBs) (fun j hj => ⟨(hW.cell (p := ⟨b, j * 2, none⟩) hb).trans (hc j hj).1, (hW.cell (p := ⟨b, j * 2 + 1, none⟩) hb).trans (hc j hj).2⟩) h0

set_option maxHeartbeats 1000000 in
theorem bwd_any (a : Option Addr) (len cap : Nat) (w : World) :
    Calls Try.prog 65 #[.slice a len cap] w fun e w' => e = .returned (.func (.func 87) #[] #[.pointer (some ⟨w.heap.size, 0, none⟩)]) ∧ w' = w.alloc (.cells #[.slice a len cap] 23) := by
  go_enter Try.func65, Try.ntmps65
  go_wp2
  go_ret
  exact ⟨rfl, rfl⟩

end Go.Proofs.Ytoioafadenniiaa
