/- A range over a function whose rounds come in a known order: the invariant speaks of how many have come. No program here. -/
import Derived.RangeFuncNested
import Derived.RangeFuncBound
import Derived.Test.YtoioafadenniiaaRoundTail
namespace Go.Proofs.Ytoioafadenniiaa
open Go.RowKit

section
variable {P : Program} {w : World}

/-- What the iterator does: round j is handed encs j, N rounds come, one behind the other. -/
def Cnt (m : Nat) (P : Program) (g : Nat) (lb : Array Value) (encs : Nat → Array Value) (Kp : World → World → Prop) (N : Nat) (w : World) : Prop :=
  ∀ (l : Nat) (J : Nat → World → Prop) (W : World), Below w.heap.size w W →
    (∀ j W1, j < N → J j W1 → YieldAt Fence.wide (m - 1) P l (encs j) W1 fun e W' => e = .returned (.bool true) ∧ J (j + 1) W' ∧ Kp W1 W') → J 0 W →
    CallsIn Fence.wide m P g (#[.func (.yield l) #[] #[]] ++ lb) W fun e W' => (∃ v, e = .returned v) ∧ J N W'
/-- How a round is left. -/
def cntPost (B : Nat) (Kp : World → World → Prop) (J : World → Prop) (W : World) : Exit → Act → World → Prop
  | .normal, _, W' => KeepsFrom B W W' ∧ Kp W W' ∧ J W'
  | _, _, _ => False

theorem wpIn_rangeFunc_cnt {m : Nat} {g : Operand} {ps : Array Tmp} {assign body : Code} {Q : Exit → Act → World → Prop} {a : Act} (h1 : 1 ≤ m) {gf : Nat} {lb : Array Value} (hg : a.eval g = .func (.func gf) #[] lb)
    (eg : ∀ args w, (callFunc gf args).run P w = .ok (.enter gf args) w) {encs : Nat → Array Value} {Kp : World → World → Prop} {N : Nat} (hseq : Cnt (m - 1) P gf lb encs Kp N w)
    (hKt : ∀ {A B C : World}, Kp A B → Kp B C → Kp A C) (hKb : ∀ (W : World) (l : Nat) (o o' : Obj), w.heap.size ≤ l → W.heap[l]? = some o → o.isCells = false → o.isWalk = false → Kp W (W.putObj l o')) (hps : ∀ j, (encs j).size = ps.size)
    (I : Nat → World → Prop) (hI : OwnFrom w.heap.size I) (h0 : I 0 w) (Ax : Nat → Act → World → Prop) (hAx : ∀ a', OwnFrom w.heap.size (fun j W => Ax j a' W))
    (hassign : ∀ (l j : Nat) (W : World) (K : Act → World → Prop), j < N → I j W → (∀ a' W', KeepsFrom w.heap.size W W' → Kp W W' → I j W' → Ax j a' W' → K a' W') →
      assign.wpIn (Fence.wide.inRound l) (m - 1 - 1) P (Exit.then K (fun _ _ _ => False)) { tmps := (ps.zip (encs j)).foldl (fun t (p, v) => t.setIfInBounds p v) a.tmps, defers := [] } W)
    (hbody : ∀ (l j : Nat) (a' : Act) (W : World), w.heap.size ≤ l → j < N → I j W → Ax j a' W → body.wpIn (Fence.wide.inRound l) (m - 1 - 1) P (cntPost w.heap.size Kp (I (j + 1)) W) a' W)
    (hdone : ∀ (D : Nat) (W : World), w.heap.size ≤ D → I N W → W.heap[D]? = some (.deferred (some [])) → Q .normal { a with defers := { target := .collected D, args := #[] } :: a.defers } W) :
    (Code.rangeFunc g ps assign body).wpIn Fence.wide m P Q a w := by
  refine wpIn_rangeFunc fun fn hfn => ?_
  rw [show Fence.wide.round = none from rfl]
  obtain ⟨rc, hrc⟩ : ∃ rc : LoopState → Loop, rc = fun st => { state := st, pending := none, fn, tmps := a.tmps, params := ps, assign, body, defers := w.heap.size } := ⟨_, rfl⟩
  obtain ⟨W1, hW1⟩ : ∃ W1, (w.alloc (.deferred (some []))).alloc (.loop (rc .ready)) = W1 := ⟨_, rfl⟩
  have hD : W1.heap[w.heap.size]? = some (.deferred (some [])) := by
    rw [← hW1]
    exact (Below.heap_alloc _ _ _ (by simp)).trans (World.alloc_heap_new w _)
  have hL : W1.heap[w.heap.size + 1]? = some (.loop (rc .ready)) := by
    rw [← hW1]
    have := World.alloc_heap_new (w.alloc (.deferred (some []))) (.loop (rc .ready))
    rwa [World.size_alloc] at this
  have hI1 : I 0 W1 := by rw [← hW1]; exact hI.alloc _ (hI.alloc _ h0)
  have hB1 : Below w.heap.size w W1 := by rw [← hW1]; exact ((Below.refl _ w).alloc (Nat.le_refl _) _).alloc (by simp) _
  refine ⟨w.heap.size + 1, [{ target := .collected w.heap.size, args := #[] }], W1, { target := .fn (.func gf) lb, args := #[.func (.yield (w.heap.size + 1)) #[] #[]] }, W1, gf,
    #[.func (.yield (w.heap.size + 1)) #[] #[]] ++ lb, W1, by rw [← hW1, hrc]; exact run_enterLoop_outer _ _ _ _ _, by simp only [resolve, hg]; simp [go_sem], fun _ _ => trivial, by simp [invoke, go_sem, eg], fun _ => h1, ?_⟩
  refine (hseq (w.heap.size + 1) (fun j W => I j W ∧ W.heap[w.heap.size + 1]? = some (.loop (rc .ready)) ∧ W.heap[w.heap.size]? = some (.deferred (some []))) W1
    hB1 ?_ ⟨hI1, hL, hD⟩).mono ?_
  · rintro j W hj ⟨hi, hl, hd⟩
    have hy := run_yield (P := P) (args := encs j) hl (by rw [hrc]; exact hps j)
    rw [hrc] at hy
    refine ⟨fn, _, assign, body, hy, roundIn_of_wpIn hfn (hassign _ j W _ hj hi fun a' Wa k1 k2 hia hax => ?_)⟩
    have hla := k1.same _ _ (by omega) hl rfl
    have hda := k1.same _ _ (Nat.le_refl _) hd rfl
    have hlt := (Array.getElem?_eq_some_iff.1 hla).1
    refine ⟨_, run_beginRound hla (by rw [hrc]), wpIn_mono (hbody _ j a' _ (by omega) hj (hI.putObj _ hia (by omega) hla rfl) ((hAx a').putObj _ hax (by omega) hla rfl)) ?_⟩
    intro e a3 W3 hp
    cases e with
    | normal =>
      obtain ⟨q1, q2, q3⟩ := hp
      have hl3 := q1.same _ _ (by omega) (World.putObj_heap_same hlt) rfl
      have hd3 := q1.same _ _ (Nat.le_refl _) ((World.putObj_heap_other (by omega)).trans hda) rfl
      have he := run_endRound (P := P) none hl3
      have e2 : ({ ({ rc .ready with state := .busy } : Loop) with state := if (none : Option Code).isNone then .ready else .done, pending := none } : Loop) = rc .ready := by rw [hrc]; rfl
      rw [e2] at he
      exact ⟨_, _, he, rfl, ⟨hI.putObj _ q3 (by omega) hl3 rfl, World.putObj_heap_same (Array.getElem?_eq_some_iff.1 hl3).1, (World.putObj_heap_other (by omega)).trans hd3⟩,
        hKt k2 (hKt (hKt (hKb _ _ _ _ (by omega) hla rfl rfl) q2) (hKb _ _ _ _ (by omega) hl3 rfl rfl))⟩
    | ret => exact hp.elim
    | exit id => exact hp.elim
    | goto t => exact hp.elim
    | panic ch => exact hp.elim
    | outgrown => exact hp.elim
  · rintro e W2 ⟨⟨v, rfl⟩, hi, hl, hd⟩
    exact ⟨none, _, by have := run_endLoop (P := P) hl (by rw [hrc]; simp); rw [hrc] at this; exact this, hdone _ _ (Nat.le_refl _) (hI.putObj _ hi (by omega) hl rfl) ((World.putObj_heap_other (by omega)).trans hd)⟩
end

end Go.Proofs.Ytoioafadenniiaa
