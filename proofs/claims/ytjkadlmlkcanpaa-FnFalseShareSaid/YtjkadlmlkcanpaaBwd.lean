/- slices.Backward over a row of numbers: what its value hands to a loop, round by round. -/
import Derived.RangeFuncNested
import Derived.RangeFuncBound
import Derived.RangeFuncCalls
import Derived.RangeFuncLeaves
import Derived.Shelf.Abstract
import Derived.Shelf.RegionOpen
import Derived.OwnWalkIn
import Derived.TacticsInMore
import Derived.LoopNIn
import Derived.LoopIn
import Derived.Test.YtjkadlmlkcanpaaStepP
namespace Go.Proofs.Ytjkadlmlkcanpaa
open Go.RowKit Go.Shelf

attribute [local go_sem] Oper.semAt_some

/-- A round leaves two blocks as they were. -/
def KpB (b b' : Nat) (W W' : World) : Prop := W'.heap[b]? = W.heap[b]? ∧ W'.heap[b']? = W.heap[b']?
theorem KpB.refl (b b' : Nat) (W : World) : KpB b b' W W := ⟨rfl, rfl⟩
theorem KpB.trans {b b' : Nat} {A B C : World} (h : KpB b b' A B) (k : KpB b b' B C) : KpB b b' A C := ⟨k.1.trans h.1, k.2.trans h.2⟩
theorem kpB_b {b b' : Nat} {w : World} (hb : b < w.heap.size) (hb' : b' < w.heap.size) (W : World) (l : Nat) (o o' : Obj) (hl : w.heap.size ≤ l) (_ : W.heap[l]? = some o) (_ : o.isCells = false) (_ : o.isWalk = false) : KpB b b' W (W.putObj l o') :=
  ⟨World.putObj_heap_other (by omega), World.putObj_heap_other (by omega)⟩

/-- The rounds have come in their order. -/
def Good {n : Nat} (pre : List (Fin n)) : Prop := pre.map (fun x => x.val) = List.range pre.length
theorem Good.nil {n : Nat} : Good ([] : List (Fin n)) := rfl
theorem Good.snoc {n : Nat} {pre : List (Fin n)} (h : Good pre) (hl : pre.length < n) : Good (pre ++ [⟨pre.length, hl⟩]) := by
  unfold Good at h ⊢
  rw [List.map_append, h, List.length_append, List.length_singleton, List.range_succ]
  rfl
theorem Good.init {n : Nat} {pre : List (Fin n)} {x : Fin n} (h : Good (pre ++ [x])) : Good pre ∧ x.val = pre.length := by
  unfold Good at h ⊢
  rw [List.map_append, List.length_append, List.length_singleton, List.range_succ] at h
  obtain ⟨h1, h2⟩ := List.append_inj' h rfl
  exact ⟨h1, by simpa using h2⟩

set_option maxRecDepth 100000 in
set_option maxHeartbeats 2000000 in
theorem bwd1_in (m : Nat) (hm : 1 ≤ m) (l Bs b cap : Nat) (L : List Int) (hn : L.length ≤ 1000) (J Jx : List (Fin L.length) → World → Prop)
    (hY : ∀ pre (x : Fin L.length) W, J pre W → pre.length < L.length → YieldAt Fence.wide (m - 1) Try.prog l #[.int .i64 ((L.length - 1 - x.val : Nat) : Int), .int .i64 (gi L (L.length - 1 - x.val))] W fun e W' =>
      (e = .returned (.bool true) ∧ J (pre ++ [x]) W' ∧ KpB b Bs W W') ∨ (e = .returned (.bool false) ∧ Jx (pre ++ [x]) W'))
    (W : World) (hBs : W.cell? ⟨Bs, 0, none⟩ = some (.slice (some ⟨b, 0, none⟩) L.length cap)) (hc : ∀ j, j < L.length → W.cell? ⟨b, j, none⟩ = some (.int .i64 (gi L j))) (h0 : J [] W) :
    CallsIn Fence.wide m Try.prog 97 #[.func (.yield l) #[] #[], .pointer (some ⟨Bs, 0, none⟩)] W fun e W' => (∃ v, e = .returned v) ∧
      ((∃ ys : List (Fin L.length), (Good ys ∧ ys.length = L.length) ∧ J ys W') ∨ (∃ pre : List (Fin L.length), True ∧ Jx pre W')) := by
  refine callsIn_of_wp Try.func97 rfl trivial ?_ rfl
  simp only [Try.ntmps97, List.size_toArray, List.length_cons, List.length_nil, Nat.reduceAdd, Nat.reduceSub, Array.replicate_succ, Array.replicate_zero, List.push_toArray, List.append_toArray, List.nil_append, List.cons_append]
  have q0 : IntKind.i64.wrap ((L.length : Int) - 1) = (L.length : Int) - 1 := IntWalk.i64_in _ (by omega)
  gi_wp2
  gi_loopw [3] (fun i wr => ∃ (z : Int) (pre : List (Fin L.length)), i = .int .i64 z ∧ (-1 ≤ z ∧ z + 1 + pre.length = L.length) ∧ Good pre ∧ J pre wr ∧ KpB b Bs W wr)
    (fun i _ => (intOf i + 1).toNat)
  case atStart => exact ⟨_, [], rfl, ⟨by omega, by simp⟩, Good.nil, h0, KpB.refl _ _ _⟩
  case round =>
    obtain ⟨z, pre, rfl, ⟨hz0, hz⟩, hgd, hJs, hnx⟩ := hrel
    by_cases hlt : 0 ≤ z
    · obtain ⟨j, rfl⟩ : ∃ j : Nat, z = j := ⟨z.toNat, by omega⟩
      have hpl : pre.length < L.length := by omega
      have hjl : L.length - 1 - pre.length = j := by omega
      obtain ⟨fn, tmps, assign, body, hy, hR⟩ := hY pre ⟨pre.length, hpl⟩ wr hJs hpl
      dsimp only at hy
      rw [hjl] at hy
      have hjn : (j : Int) < (L.length : Int) := by omega
      have hcx' : wr.cell? ⟨b, j, none⟩ = some (.int .i64 (gi L j)) := (World.cell?_of_block (a := ⟨b, j, none⟩) hnx.1).trans (hc j (by omega))
      have hbx' : wr.cell? ⟨Bs, 0, none⟩ = some (.slice (some ⟨b, 0, none⟩) L.length cap) := (World.cell?_of_block (a := ⟨Bs, 0, none⟩) hnx.2).trans hBs
      have q1 : IntKind.i64.wrap ((j : Int) - 1) = (j : Int) - 1 := IntWalk.i64_in _ (by omega)
      have t1 : (0 : Int) ≤ (j : Int) := by omega
      have HZ := Lib.hid hz
      have HG := Lib.hid hgd
      clear hz hgd
      gi_wp2
      refine hR.mono ?_
      rintro e W3 (⟨rfl, hJ3, hk3⟩ | ⟨rfl, hJx3⟩)
      · gi_wp2
        go_roundw
        case rel => exact ⟨(j : Int) - 1, pre ++ [⟨pre.length, hpl⟩], rfl, ⟨by omega, by have := HZ.out; rw [List.length_append, List.length_singleton]; omega⟩, HG.out.snoc hpl, hJ3, hnx.trans hk3⟩
        case measure => simp [intOf]
      · gi_wp2
        refine bodyPost_ret (results_none rfl _ _ _) rfl ?_
        exact ⟨⟨_, rfl⟩, .inr ⟨_, trivial, hJx3⟩⟩
    · have hpn : pre.length = L.length := by omega
      have HG := Lib.hid (And.intro hgd hpn)
      have t1 : ¬ (0 : Int) ≤ z := hlt
      clear hgd hpn hlt hz
      gi_wp2
      go_end0
      exact ⟨⟨_, rfl⟩, .inl ⟨pre, HG.out, hJs⟩⟩

/-- What slices.Backward gives to a loop. -/
theorem bwd_stops (m : Nat) (hm : 1 ≤ m) (Bs b cap : Nat) (L : List Int) (hn : L.length ≤ 1000) (w : World) (hb : b < w.heap.size) (hB : Bs < w.heap.size) (hBs : w.cell? ⟨Bs, 0, none⟩ = some (.slice (some ⟨b, 0, none⟩) L.length cap)) (hc : ∀ j, j < L.length → w.cell? ⟨b, j, none⟩ = some (.int .i64 (gi L j))) :
    SeqStopsK Fence.wide m Try.prog 97 #[.pointer (some ⟨Bs, 0, none⟩)] (fun x : Fin L.length => #[.int .i64 ((L.length - 1 - x.val : Nat) : Int), .int .i64 (gi L (L.length - 1 - x.val))]) (KpB b Bs)
      (fun ys => Good ys ∧ ys.length = L.length) (fun _ => True) L.length w := fun l J Jx W hW _ _ hY h0 =>
  bwd1_in m hm l Bs b cap L hn J Jx hY W ((hW.cell (p := ⟨Bs, 0, none⟩) hB).trans hBs) (fun j hj => (hW.cell (p := ⟨b, j, none⟩) hb).trans (hc j hj)) h0

theorem bwd_stops' (m : Nat) (hm : 1 ≤ m) (Bs b cap n : Nat) (L : List Int) (f : Nat → Nat) (hL : L.length = n) (hf : ∀ r, r < n → gi L r = (f r : Int)) (hn : n ≤ 1000) (w : World) (hb : b < w.heap.size) (hB : Bs < w.heap.size) (hBs : w.cell? ⟨Bs, 0, none⟩ = some (.slice (some ⟨b, 0, none⟩) n cap)) (hc : ∀ j, j < L.length → w.cell? ⟨b, j, none⟩ = some (.int .i64 (gi L j))) :
    SeqStopsK Fence.wide m Try.prog 97 #[.pointer (some ⟨Bs, 0, none⟩)] (fun x : Fin n => #[.int .i64 ((n - 1 - x.val : Nat) : Int), .int .i64 ((f (n - 1 - x.val) : Nat) : Int)]) (KpB b Bs)
      (fun ys => Good ys ∧ ys.length = n) (fun _ => True) n w := by
  subst hL
  have e : (fun x : Fin L.length => #[Value.int .i64 ((L.length - 1 - x.val : Nat) : Int), .int .i64 ((f (L.length - 1 - x.val) : Nat) : Int)]) = fun x : Fin L.length => #[Value.int .i64 ((L.length - 1 - x.val : Nat) : Int), .int .i64 (gi L (L.length - 1 - x.val))] := by
    funext x
    rw [hf _ (by have := x.isLt; omega)]
  rw [e]
  exact bwd_stops m hm Bs b cap L hn w hb hB hBs hc

set_option maxHeartbeats 1000000 in
theorem bwd_any (a : Option Addr) (len cap : Nat) (w : World) :
    Calls Try.prog 78 #[.slice a len cap] w fun e w' => e = .returned (.func (.func 97) #[] #[.pointer (some ⟨w.heap.size, 0, none⟩)]) ∧ w' = w.alloc (.cells #[.slice a len cap] 22) := by
  go_enter Try.func78, Try.ntmps78
  go_wp2
  go_ret
  exact ⟨rfl, rfl⟩

end Go.Proofs.Ytjkadlmlkcanpaa
