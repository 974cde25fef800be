/- Rows of cells that the call has made, whatever their elements; arguments that came in. No walk here. -/
import Derived.Test.YtpcnjkgoehepaaaKeep
namespace Go.Proofs.Ytpcnjkgoehepaaa
open Go.RowKit

/-- A block of cells begins with these. -/
def Blk (w : World) (g : Nat) (e : TypeId) (cs : List Value) : Prop := ∃ cur, w.heap[g]? = some (.cells cur e (0, 0)) ∧ cur.toList.take cs.length = cs
theorem Blk.lt {w : World} {g : Nat} {e : TypeId} {cs : List Value} (h : Blk w g e cs) : g < w.heap.size := by
  obtain ⟨cur, h1, _⟩ := h
  exact (Array.getElem?_eq_some_iff.1 h1).1
theorem Blk.cell {w : World} {g : Nat} {e : TypeId} {cs : List Value} (h : Blk w g e cs) {j : Nat} {v : Value} (hj : cs[j]? = some v) : w.cell? ⟨g, j, none⟩ = some v := by
  obtain ⟨cur, h1, h2⟩ := h
  rw [cell_of_row w g j cur e (0, 0) h1]
  rw [← h2, List.getElem?_take] at hj
  split at hj
  · simpa using hj
  · cases hj
theorem Blk.frozen {w : World} {g : Nat} {e : TypeId} {cs : List Value} (h : Blk w g e cs) (j : Nat) : w.frozen? ⟨g, j, none⟩ = false := by
  obtain ⟨cur, h1, _⟩ := h
  exact frozen_of_row w g j cur e h1
theorem Blk.set {w : World} {g : Nat} {e : TypeId} {cs : List Value} (h : Blk w g e cs) (j : Nat) (v : Value) : Blk (w.setCell ⟨g, j, none⟩ v) g e (cs.set j v) := by
  obtain ⟨cur, h1, h2⟩ := h
  refine ⟨cur.setIfInBounds j v, heap_setCell_same w g j cur e v h1, ?_⟩
  rw [Array.toList_setIfInBounds, List.length_set, List.take_set, h2]
theorem Blk.of_eq {w w' : World} {g : Nat} {e : TypeId} {cs : List Value} (h : Blk w g e cs) (hw : w'.heap[g]? = w.heap[g]?) : Blk w' g e cs := by
  obtain ⟨cur, h1, h2⟩ := h
  exact ⟨cur, hw.trans h1, h2⟩
theorem Blk.below {w w' : World} {g : Nat} {e : TypeId} {cs : List Value} (h : Blk w g e cs) (hb : Below w.heap.size w w') : Blk w' g e cs := h.of_eq (hb.block g h.lt)
theorem Blk.other {w : World} {g : Nat} {e : TypeId} {cs : List Value} (h : Blk w g e cs) {a : Addr} (v : Value) (ha : a.block ≠ g) : Blk (w.setCell a v) g e cs :=
  h.of_eq (Below.heap_setCell w a v g (fun e => ha e.symm))
theorem Blk.grown {w w' : World} {g g' : Nat} {e : TypeId} {cs : List Value} (h : Blk w g e cs) (hb : w.grownBy w' (some g')) (hne : g ≠ g') : Blk w' g e cs :=
  h.of_eq (hb.block g h.lt (fun e => hne (Option.some.inj e)))
theorem Blk.made (w : World) (cur : Array Value) (e : TypeId) : Blk (w.alloc (.cells cur e)) w.heap.size e cur.toList := ⟨cur, heap_alloc_new w _, List.take_of_length_le (Nat.le_refl _)⟩
theorem Blk.row {w : World} {g : Nat} {xs : List Int} (h : Blk w g 3 (ic xs)) : RowI w g 0 xs :=
  ⟨h.lt, fun k hk => by rw [Nat.zero_add]; exact h.cell (by simp [ic, gi_eq hk, hk])⟩
theorem Blk.of_own {w : World} {base g cap n size m : Nat} {e : TypeId} {cs : List Value} (h : w.ownsRow base e size (.slice (some ⟨g, 0, none⟩) m cap) n cs) : Blk w g e cs ∧ base ≤ g := by
  have hl := h.1
  rcases h.2 with ⟨h0, _⟩ | ⟨g', cap', cur, hv, hb, hg, hnc, hcm, hcs, htake⟩
  · cases h0
  · cases hv
    exact ⟨⟨cur, hg, by rw [hl]; exact htake⟩, hb⟩

/-- A slice that the call has made (or nil), of n elements: its cells, not before the block base. -/
def Mut (e : TypeId) (w : World) (base : Nat) (v : Value) (n : Nat) (cs : List Value) : Prop :=
  (v = .slice none 0 0 ∧ n = 0 ∧ cs = []) ∨ ∃ g cap, v = .slice (some ⟨g, 0, none⟩) n cap ∧ base ≤ g ∧ Blk w g e cs
theorem Mut.below {e : TypeId} {w w' : World} {base : Nat} {v : Value} {n : Nat} {cs : List Value} (h : Mut e w base v n cs) (hb : Below w.heap.size w w') : Mut e w' base v n cs := by
  rcases h with h | ⟨g, cap, h1, h2, h3⟩
  · exact .inl h
  · exact .inr ⟨g, cap, h1, h2, h3.below hb⟩
theorem Mut.mono {e : TypeId} {w : World} {base base' : Nat} {v : Value} {n : Nat} {cs : List Value} (h : Mut e w base v n cs) (hb : base' ≤ base) : Mut e w base' v n cs := by
  rcases h with h | ⟨g, cap, h1, h2, h3⟩
  · exact .inl h
  · exact .inr ⟨g, cap, h1, Nat.le_trans hb h2, h3⟩
theorem Mut.nil (e : TypeId) (w : World) (base : Nat) : Mut e w base (.slice none 0 0) 0 [] := .inl ⟨rfl, rfl, rfl⟩
theorem Mut.of_own {e : TypeId} {w : World} {base g cap n size : Nat} {cs : List Value} (h : w.ownsRow base e size (.slice (some ⟨g, 0, none⟩) n cap) n cs) (c : Nat) : Mut e w base (.slice (some ⟨g, 0, none⟩) n c) n cs :=
  .inr ⟨g, c, rfl, (Blk.of_own h).2, (Blk.of_own h).1⟩
theorem Mut.grown {e : TypeId} {w w' : World} {base g' : Nat} {v : Value} {n : Nat} {cs : List Value} (h : Mut e w base v n cs) (hb : w.grownBy w' (some g')) (hne : g' < base) : Mut e w' base v n cs := by
  rcases h with h | ⟨g, cap, h1, h2, h3⟩
  · exact .inl h
  · exact .inr ⟨g, cap, h1, h2, h3.grown hb (by omega)⟩

/-- A slice of integers that came in: it has no elements, or they lie in memory. -/
def ArgI (w : World) (v : Value) (xs : List Int) : Prop :=
  (∃ a c, v = .slice a 0 c ∧ xs = []) ∨ ∃ b o c, v = .slice (some ⟨b, o, none⟩) xs.length c ∧ RowI w b o xs
theorem ArgI.below {w w' : World} {v : Value} {xs : List Int} (h : ArgI w v xs) (hb : Below w.heap.size w w') : ArgI w' v xs := by
  rcases h with h | ⟨b, o, c, h1, h2⟩
  · exact .inl h
  · exact .inr ⟨b, o, c, h1, h2.below hb⟩
theorem ArgI.old {w w' : World} {v : Value} {xs : List Int} (h : ArgI w v xs) (hb : Below w.heap.size w w') : ArgI w' v xs := h.below hb
theorem Mut.arg {w : World} {base : Nat} {v : Value} {n : Nat} {xs : List Int} (h : Mut 3 w base v n (ic xs)) (hn : n = xs.length) : ArgI w v xs := by
  subst hn
  rcases h with ⟨h1, h2, _⟩ | ⟨g, cap, h1, h2, h3⟩
  · exact .inl ⟨none, 0, h1, List.eq_nil_of_length_eq_zero h2⟩
  · exact .inr ⟨g, 0, cap, h1, h3.row⟩

theorem grownBy_refl (w : World) (r : Option Nat) : w.grownBy w r := ⟨rfl, rfl, rfl, Nat.le_refl _, fun _ _ _ => rfl⟩
theorem grownBy_set {w w' : World} {g : Nat} (h : w.grownBy w' (some g)) {j : Nat} (v : Value) : w.grownBy (w'.setCell ⟨g, j, none⟩ v) (some g) :=
  ⟨h.os, h.tape, h.output, by rw [World.size_setCell]; exact h.size, fun k hk hne => (Below.heap_setCell w' ⟨g, j, none⟩ v k (fun e => hne (by rw [e]))).trans (h.block k hk hne)⟩

theorem get_ic {xs : List Int} {k : Nat} (h : k < xs.length) : (ic xs)[k]? = some (.int .i64 (gi xs k)) := by simp [ic, gi_eq h, h]

end Go.Proofs.Ytpcnjkgoehepaaa
