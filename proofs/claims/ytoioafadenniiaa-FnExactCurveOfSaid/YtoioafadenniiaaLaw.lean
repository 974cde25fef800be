/- What a law's own steps change in memory; the rows that came in. -/
import Derived.Test.YtoioafadenniiaaFRow
namespace Go.Proofs.Ytoioafadenniiaa
open Go.RowKit

/-- Of the blocks that were there only some from lo on and below hi have changed. -/
structure Chg (lo hi : Nat) (w w' : World) : Prop where
  os : w'.os = w.os
  tape : w'.tape = w.tape
  output : w'.output = w.output
  size : w.heap.size ≤ w'.heap.size
  block : ∀ k, k < w.heap.size → k < lo ∨ hi ≤ k → w'.heap[k]? = w.heap[k]?
theorem Chg.refl (lo hi : Nat) (w : World) : Chg lo hi w w := ⟨rfl, rfl, rfl, Nat.le_refl _, fun _ _ _ => rfl⟩
theorem Chg.of_grown {lo hi g : Nat} {w w' : World} (h : w.grownBy w' (some g)) (h1 : lo ≤ g) (h2 : g < hi) : Chg lo hi w w' :=
  ⟨h.os, h.tape, h.output, h.size, fun k hk hne => h.block k hk (fun e => by have := Option.some.inj e; omega)⟩
theorem Chg.below {lo hi B : Nat} {w w' : World} (h : Chg lo hi w w') (h1 : B ≤ lo) (h2 : B ≤ w.heap.size) : Below B w w' :=
  ⟨h.os, h.tape, h.output, h.size, fun k hk => h.block k (by omega) (Or.inl (by omega))⟩

/-- A slice that the call has made (or nil), of n elements: its cells; its block is one from lo on and below hi. -/
def MutB (e : TypeId) (w : World) (lo hi : Nat) (v : Value) (n : Nat) (cs : List Value) : Prop :=
  (v = .slice none 0 0 ∧ n = 0 ∧ cs = []) ∨ ∃ g cap, v = .slice (some ⟨g, 0, none⟩) n cap ∧ lo ≤ g ∧ g < hi ∧ Blk w g e cs
theorem MutB.of {e : TypeId} {w : World} {base : Nat} {v : Value} {n : Nat} {cs : List Value} (h : Mut e w base v n cs) : MutB e w base w.heap.size v n cs := by
  rcases h with h | ⟨g, cap, h1, h2, h3⟩
  · exact .inl h
  · exact .inr ⟨g, cap, h1, h2, h3.lt, h3⟩
theorem MutB.mut {e : TypeId} {w : World} {lo hi : Nat} {v : Value} {n : Nat} {cs : List Value} (h : MutB e w lo hi v n cs) : Mut e w lo v n cs := by
  rcases h with h | ⟨g, cap, h1, h2, _, h3⟩
  · exact .inl h
  · exact .inr ⟨g, cap, h1, h2, h3⟩
theorem MutB.below {e : TypeId} {w w' : World} {lo hi : Nat} {v : Value} {n : Nat} {cs : List Value} (h : MutB e w lo hi v n cs) (hb : Below w.heap.size w w') : MutB e w' lo hi v n cs := by
  rcases h with h | ⟨g, cap, h1, h2, h3, h4⟩
  · exact .inl h
  · exact .inr ⟨g, cap, h1, h2, h3, h4.below hb⟩
theorem MutB.chg {e : TypeId} {w w' : World} {lo hi lo' hi' : Nat} {v : Value} {n : Nat} {cs : List Value} (h : MutB e w lo hi v n cs) (hb : Chg lo' hi' w w') (hd : hi ≤ lo' ∨ hi' ≤ lo) : MutB e w' lo hi v n cs := by
  rcases h with h | ⟨g, cap, h1, h2, h3, h4⟩
  · exact .inl h
  · exact .inr ⟨g, cap, h1, h2, h3, h4.of_eq (hb.block g h4.lt (by omega))⟩
theorem Blk.chg {e : TypeId} {w w' : World} {lo hi g : Nat} {cs : List Value} (h : Blk w g e cs) (hb : Chg lo hi w w') (hd : g < lo ∨ hi ≤ g) : Blk w' g e cs := h.of_eq (hb.block g h.lt hd)

theorem markFracS_mut (lo hi n : Nat) (v : Value) (fs : List Rat) (w : World) (h : MutB 31 w lo hi v n (fc fs)) (hl : fs.length = n) (hn : n ≤ 1048576) :
    Calls Try.prog 16 #[v, .int .i64 1] w fun e w' => e = .returned (.int .i64 (1 + (n * 2 : Nat))) ∧ MutB 31 w' lo hi v n (mk 1 (n * 2)) ∧ Chg lo hi w w' := by
  rcases h with ⟨rfl, rfl, _⟩ | ⟨g, c, rfl, h1, h2, h3⟩
  · exact (markFracS_nil none 0 1 w).mono fun e w' ⟨he, hw⟩ => ⟨by rw [he]; rfl, .inl ⟨rfl, rfl, rfl⟩, by rw [hw]; exact Chg.refl _ _ _⟩
  · exact (markFracS_row g c n (fc fs) 1 w h3 (by rw [fc_length, hl]) hn (by omega) (by omega)).mono fun e w' ⟨he, hb, hg⟩ => ⟨he, .inr ⟨g, c, rfl, h1, h2, hb⟩, Chg.of_grown hg h1 h2⟩
theorem heldFracS_mut (lo hi n : Nat) (v : Value) (w : World) (h : MutB 31 w lo hi v n (mk 1 (n * 2))) (hn : n ≤ 1048576) :
    Calls Try.prog 17 #[v, .int .i64 1] w fun e w' => e = .returned (.int .i64 (1 + (n * 2 : Nat))) ∧ w' = w := by
  rcases h with ⟨rfl, rfl, _⟩ | ⟨g, c, rfl, h1, h2, h3⟩
  · exact (heldFracS_nil none 0 1 w).mono fun e w' ⟨he, hw⟩ => ⟨by rw [he]; rfl, hw⟩
  · exact heldFracS_row g c n 1 w h3 hn (by omega) (by omega)

end Go.Proofs.Ytoioafadenniiaa
