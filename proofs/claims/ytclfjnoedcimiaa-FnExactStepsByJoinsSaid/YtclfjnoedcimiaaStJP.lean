/- Steps by joins: what is computed. No walk here. -/
import Derived.Test.YtclfjnoedcimiaaSqP
namespace Go.Proofs.Ytclfjnoedcimiaa
open Go.RowKit

theorem if_iff {c d : Prop} [Decidable c] [Decidable d] {x y : Int} (h : c ↔ d) : (if c then x else y) = if d then x else y := by
  by_cases e : c
  · rw [if_pos e, if_pos (h.1 e)]
  · rw [if_neg e, if_neg (fun f => e (h.2 f))]
/-- The pairs ahead of (i, k), row by row. -/
def ahead (i k a b : Nat) : Prop := a < i ∨ (a = i ∧ b < k)
instance (i k a b : Nat) : Decidable (ahead i k a b) := by unfold ahead; infer_instance
def G2 (G : List Int) (x y : Int) (a b : Nat) : Prop := gi G a = x ∧ gi G b = y
instance (G : List Int) (x y : Int) (a b : Nat) : Decidable (G2 G x y a b) := by unfold G2; infer_instance
/-- All pairs of two groups bear the height. -/
def mJ (M : Nat → Nat → Int) (G : List Int) (x y h : Int) : Nat → Nat → Int := fun a b => if G2 G x y a b ∨ G2 G x y b a then h else M a b
def mI (M : Nat → Nat → Int) (G : List Int) (x y h : Int) (i k : Nat) : Nat → Nat → Int := fun a b => if (ahead i k a b ∧ G2 G x y a b) ∨ (ahead i k b a ∧ G2 G x y b a) then h else M a b
def mS (M : Nat → Nat → Int) (G : List Int) (x y h : Int) (i k : Nat) : Nat → Nat → Int := fun a b => if ahead i k a b ∧ (G2 G x y a b ∨ G2 G x y b a) then h else M a b
theorem ahead_zero (a b : Nat) : ¬ ahead 0 0 a b := by unfold ahead; omega
theorem ahead_next (i k a b : Nat) : ahead i (k + 1) a b ↔ ahead i k a b ∨ (a = i ∧ b = k) := by unfold ahead; omega
theorem ahead_row {i n a b : Nat} (hb : b < n) : ahead (i + 1) 0 a b ↔ ahead i n a b := by unfold ahead; omega
theorem ahead_end {n a b : Nat} (ha : a < n) : ahead n 0 a b := by unfold ahead; omega
theorem mI_zero (M : Nat → Nat → Int) (G : List Int) (x y h : Int) : mI M G x y h 0 0 = M := by
  funext a b
  unfold mI
  rw [if_neg (fun e => by rcases e with e | e <;> exact absurd e.1 (ahead_zero _ _))]
theorem mI_row {M : Nat → Nat → Int} {G : List Int} {x y h : Int} {i n a b : Nat} (ha : a < n) (hb : b < n) : mI M G x y h i n a b = mI M G x y h (i + 1) 0 a b := by
  unfold mI
  simp only [ahead_row ha, ahead_row hb]
theorem mI_end {M : Nat → Nat → Int} {G : List Int} {x y h : Int} {n a b : Nat} (ha : a < n) (hb : b < n) : mI M G x y h n 0 a b = mJ M G x y h a b := by
  unfold mI mJ
  simp only [ahead_end ha, ahead_end hb, true_and]
theorem mI_skip {M : Nat → Nat → Int} {G : List Int} {x y h : Int} {i k : Nat} (hn : ¬ G2 G x y i k) (a b : Nat) : mI M G x y h i k a b = mI M G x y h i (k + 1) a b := by
  unfold mI
  refine if_iff ?_
  rw [ahead_next, ahead_next]
  constructor
  · rintro (⟨h1, h2⟩ | ⟨h1, h2⟩)
    · exact .inl ⟨.inl h1, h2⟩
    · exact .inr ⟨.inl h1, h2⟩
  · rintro (⟨h1 | ⟨rfl, rfl⟩, h2⟩ | ⟨h1 | ⟨rfl, rfl⟩, h2⟩)
    · exact .inl ⟨h1, h2⟩
    · exact absurd h2 hn
    · exact .inr ⟨h1, h2⟩
    · exact absurd h2 hn
theorem mI_put {M : Nat → Nat → Int} {G : List Int} {x y h : Int} {i k : Nat} (hy : G2 G x y i k) (a b : Nat) : upM (upM (mI M G x y h i k) i k h) k i h a b = mI M G x y h i (k + 1) a b := by
  unfold upM mI
  by_cases e1 : a = k ∧ b = i
  · obtain ⟨rfl, rfl⟩ := e1
    rw [if_pos ⟨rfl, rfl⟩, if_pos (.inr ⟨(ahead_next _ _ _ _).2 (.inr ⟨rfl, rfl⟩), hy⟩)]
  · rw [if_neg e1]
    by_cases e2 : a = i ∧ b = k
    · obtain ⟨rfl, rfl⟩ := e2
      rw [if_pos ⟨rfl, rfl⟩, if_pos (.inl ⟨(ahead_next _ _ _ _).2 (.inr ⟨rfl, rfl⟩), hy⟩)]
    · rw [if_neg e2]
      refine if_iff ?_
      rw [ahead_next, ahead_next]
      constructor
      · rintro (⟨h1, h2⟩ | ⟨h1, h2⟩)
        · exact .inl ⟨.inl h1, h2⟩
        · exact .inr ⟨.inl h1, h2⟩
      · rintro (⟨h1 | h1, h2⟩ | ⟨h1 | h1, h2⟩)
        · exact .inl ⟨h1, h2⟩
        · exact absurd h1 e2
        · exact .inr ⟨h1, h2⟩
        · exact absurd ⟨h1.2, h1.1⟩ e1
theorem mS_zero (M : Nat → Nat → Int) (G : List Int) (x y h : Int) : mS M G x y h 0 0 = M := by
  funext a b
  unfold mS
  rw [if_neg (fun e => absurd e.1 (ahead_zero _ _))]
theorem mS_row {M : Nat → Nat → Int} {G : List Int} {x y h : Int} {i n a b : Nat} (hb : b < n) : mS M G x y h i n a b = mS M G x y h (i + 1) 0 a b := by
  unfold mS
  simp only [ahead_row hb]
theorem mS_end {M : Nat → Nat → Int} {G : List Int} {x y h : Int} {n a b : Nat} (ha : a < n) : mS M G x y h n 0 a b = mJ M G x y h a b := by
  unfold mS mJ
  simp only [ahead_end ha, true_and]
theorem mS_skip {M : Nat → Nat → Int} {G : List Int} {x y h : Int} {i k : Nat} (hn : ¬ (G2 G x y i k ∨ G2 G x y k i)) (a b : Nat) : mS M G x y h i k a b = mS M G x y h i (k + 1) a b := by
  unfold mS
  refine if_iff ?_
  rw [ahead_next]
  constructor
  · rintro ⟨h1, h2⟩
    exact ⟨.inl h1, h2⟩
  · rintro ⟨h1 | ⟨rfl, rfl⟩, h2⟩
    · exact ⟨h1, h2⟩
    · exact absurd h2 hn
theorem mS_put {M : Nat → Nat → Int} {G : List Int} {x y h : Int} {i k : Nat} (hy : G2 G x y i k ∨ G2 G x y k i) (a b : Nat) : upM (mS M G x y h i k) i k h a b = mS M G x y h i (k + 1) a b := by
  unfold upM mS
  by_cases e2 : a = i ∧ b = k
  · obtain ⟨rfl, rfl⟩ := e2
    rw [if_pos ⟨rfl, rfl⟩, if_pos ⟨(ahead_next _ _ _ _).2 (.inr ⟨rfl, rfl⟩), hy⟩]
  · rw [if_neg e2]
    refine if_iff ?_
    rw [ahead_next]
    constructor
    · rintro ⟨h1, h2⟩
      exact ⟨.inl h1, h2⟩
    · rintro ⟨h1 | h1, h2⟩
      · exact ⟨h1, h2⟩
      · exact absurd h1 e2
/-- The steps when k joins have been looked at. -/
def sK (xss : List (List Int)) (n : Nat) : Nat → Nat → Nat → Int
  | 0 => fun _ _ => 0
  | k + 1 => mJ (sK xss n k) (gI n (oF (fNear xss) n k)) (gi (gI n (oF (fNear xss) n k)) (nj xss n k).1) (gi (gI n (oF (fNear xss) n k)) (nj xss n k).2.1) (nj xss n k).2.2
/-- The steps. -/
def stM (xss : List (List Int)) : List (List Int) := mkM (sK xss xss.length (xss.length - 1)) xss.length
theorem gj_at {F : List Int → Nat → Nat → Int × Bool} {n k m : Nat} (h : k < m) : gj (oF F n m) k = scAF (F (gI n (oF F n k))) n n := by
  have := oF_at F n m h
  unfold gj
  rw [List.getD_eq_getElem?_getD, this]
  rfl

end Go.Proofs.Ytclfjnoedcimiaa
