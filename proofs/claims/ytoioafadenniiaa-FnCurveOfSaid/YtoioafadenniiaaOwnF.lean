/- Rows of fractions that the call owns. Lists by their index. -/
import Derived.Test.YtoioafadenniiaaMinMax
namespace Go.Proofs.Ytoioafadenniiaa
open Go.RowKit

/-- A list of n fractions that the call owns. -/
def OwnF (w : World) (base : Nat) (v : Value) (n : Nat) (fs : List Rat) : Prop := w.ownsRow base 31 2 v n (fc fs)
theorem OwnF.len {w : World} {base : Nat} {v : Value} {n : Nat} {fs : List Rat} (h : OwnF w base v n fs) : fs.length = n := by
  have := h.1
  rw [fc_length] at this
  omega
theorem OwnF.nil (w : World) (base : Nat) : OwnF w base (.slice none 0 0) 0 [] := World.ownsRow_nil w base 31 2
theorem OwnF.shape {w : World} {base : Nat} {v : Value} {n : Nat} {fs : List Rat} (h : OwnF w base v n fs) (hne : n ≠ 0) : ∃ g cap, v = .slice (some ⟨g, 0, none⟩) n cap ∧ base ≤ g := by
  rcases h.2 with ⟨_, h0⟩ | ⟨g', cap', cur, hv, hb, _⟩
  · exact absurd h0 hne
  · exact ⟨g', cap', hv, hb⟩
theorem OwnF.below {w w' : World} {base : Nat} {v : Value} {n : Nat} {fs : List Rat} (h : OwnF w base v n fs) (hb : Below w.heap.size w w') : OwnF w' base v n fs :=
  World.ownsRow.kept h (row := none) ⟨hb.os, hb.tape, hb.output, hb.size, fun k hk _ => hb.block k hk⟩ (by cases hv : v.ownBlock <;> simp)
theorem OwnF.app {w : World} {base : Nat} {v : Value} {n : Nat} {fs : List Rat} {q : Rat} (h : w.ownsRow base 31 2 v n (fc fs ++ [.int .i64 (up q), .int .i64 (dn q)])) : OwnF w base v n (fs ++ [q]) := by
  rw [fc_append] at h
  exact h
theorem OwnF.blk {w : World} {base g cap m n : Nat} {fs : List Rat} (h : OwnF w base (.slice (some ⟨g, 0, none⟩) m cap) n fs) : Blk w g 31 (fc fs) := (Blk.of_own h).1

theorem cell_two_new (w : World) (a b : Value) (e : TypeId) : ∀ j u, [a, b][j]? = some u → (w.alloc (.cells #[a, b] e)).cell? ((⟨w.heap.size, 0, none⟩ : Addr).add j) = some u := by
  intro j u hj
  match j, hj with
  | 0, hj => simp at hj; subst hj; simp [Addr.add, go_sem]
  | 1, hj => simp at hj; subst hj; simp [Addr.add, go_sem]

/-- The list of a function's values up to n. -/
def tab (f : Nat → Rat) (n : Nat) : List Rat := (List.range n).map f
theorem tab_length (f : Nat → Rat) (n : Nat) : (tab f n).length = n := by simp [tab]
theorem tab_succ (f : Nat → Rat) (n : Nat) : tab f (n + 1) = tab f n ++ [f n] := by simp [tab, List.range_succ]
theorem gq_tab {f : Nat → Rat} {n k : Nat} (h : k < n) : gq (tab f n) k = f k := by unfold gq tab; simp [h]
theorem SmAll.tab {A B : Int} {f : Nat → Rat} {n : Nat} (h : ∀ k, k < n → Sm A B (f k)) : SmAll A B (tab f n) := by
  intro k hk
  rw [tab_length] at hk
  rw [gq_tab hk]
  exact h k hk

end Go.Proofs.Ytoioafadenniiaa
