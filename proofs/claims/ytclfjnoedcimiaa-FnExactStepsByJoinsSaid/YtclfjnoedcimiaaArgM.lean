/- What a slice of slices of numbers that came in reads as. No walk here. -/
import Derived.Test.YtclfjnoedcimiaaArg
import Derived.Test.YtclfjnoedcimiaaMat
import Derived.OpenShut
import Derived.Deep.Matrix
namespace Go.Proofs.Ytclfjnoedcimiaa
open Go.RowKit Go.ChangeShapes

/-- A slice of slices of numbers that came in. -/
def IsRows (w : World) (a : Option Addr) (len cap : Nat) : Prop :=
  (a = none ∧ len = 0 ∧ cap = 0) ∨ ∃ (x : Addr) (A : Nat → Option Addr) (L C : Nat → Nat) (Z : Nat → List Int), a = some x ∧ len ≤ cap ∧ cap ≤ maxLen ∧
    ∀ r, r < cap → w.cell? (x.add r) = some (.slice (A r) (L r) (C r)) ∧ L r ≤ C r ∧ C r ≤ maxLen ∧ (Z r).length = C r ∧ (∀ n ∈ Z r, (Lit.int .i64 n).wf = true) ∧ (A r = none → C r = 0) ∧
      ∀ a', A r = some a' → ∀ c, c < C r → w.cell? (a'.add c) = some (.int .i64 ((Z r).getD c 0))

theorem argM_of {w : World} {a : Option Addr} {len cap : Nat} (h : IsRows w a len cap) :
    ∃ xss : List (List Int), xss.length = len ∧ ArgM w (.slice a len cap) xss ∧ len ≤ 9223372036854775807 ∧ ∀ k, k < xss.length → (gl xss k).length ≤ 9223372036854775807 := by
  rcases h with ⟨rfl, rfl, rfl⟩ | ⟨x, A, L, C, Z, rfl, h1, h2, h3⟩
  · exact ⟨[], rfl, .inl ⟨none, 0, rfl, rfl⟩, by omega, fun k hk => absurd hk (by simp)⟩
  · have h6 : len ≤ 9223372036854775807 := by unfold maxLen at h2; omega
    by_cases h0 : len = 0
    · subst h0
      exact ⟨[], rfl, .inl ⟨some x, cap, rfl, rfl⟩, by omega, fun k hk => absurd hk (by simp)⟩
    · have hrow : ∀ r, ∃ ys : List Int, r < cap → ys.length = L r ∧ ArgI w (.slice (A r) (L r) (C r)) ys ∧ L r ≤ 9223372036854775807 := fun r => by
        by_cases hr : r < cap
        · obtain ⟨_, e2, e3, e4, e5, e6, e7⟩ := h3 r hr
          have : ∃ ys : List Int, ys.length = L r ∧ ArgI w (.slice (A r) (L r) (C r)) ys ∧ L r ≤ 9223372036854775807 := argI_of (zs := Z r) (by
            cases hA : A r with
            | none =>
              have hc := e6 hA
              exact .inl ⟨rfl, by omega, hc, List.eq_nil_of_length_eq_zero (by omega)⟩
            | some a' => exact .inr ⟨a', rfl, e2, e3, e4, fun i hi => e7 a' hA i (by omega), e5⟩)
          obtain ⟨ys, hy⟩ := this
          exact ⟨ys, fun _ => hy⟩
        · exact ⟨[], fun h => absurd h hr⟩
      obtain ⟨b, off, spot⟩ := x
      have hspot : spot = none := by simpa [Addr.add] using World.cell?_spot (h3 0 (by omega)).1
      subst hspot
      have hcell : ∀ r, r < cap → w.cell? ⟨b, off + r, none⟩ = some (.slice (A r) (L r) (C r)) := fun r hr => by rw [← Go.WideShapes.add_plain]; exact (h3 r hr).1
      have hl : ((List.range len).map fun r => Classical.choose (hrow r)).length = len := by simp
      have hg : ∀ k, k < len → gl ((List.range len).map fun r => Classical.choose (hrow r)) k = Classical.choose (hrow k) := fun k hk => by simp [gl, hk]
      refine ⟨(List.range len).map fun r => Classical.choose (hrow r), hl, .inr ⟨b, off, cap, A, C, by rw [hl], World.block_lt_of_cell? w _ (hcell 0 (by omega)), fun k hk => ?_⟩, h6, fun k hk => ?_⟩
      · rw [hl] at hk
        have hs := Classical.choose_spec (hrow k) (by omega)
        rw [hg k hk, hs.1]
        exact ⟨hcell k (by omega), hs.2.1⟩
      · rw [hl] at hk
        have hs := Classical.choose_spec (hrow k) (by omega)
        rw [hg k hk, hs.1]
        exact hs.2.2

end Go.Proofs.Ytclfjnoedcimiaa
