/- What comes in, as lists. -/
import Derived.Test.YtpcnjkgoehepaaaBlk
import Derived.OpenShut
namespace Go.Proofs.Ytpcnjkgoehepaaa
open Go.RowKit Go.ChangeShapes

theorem argI_of {w : World} {a : Option Addr} {len cap : Nat} {zs : List Int} (h : (a = none ∧ len = 0 ∧ cap = 0 ∧ zs = []) ∨
    ∃ x, a = some x ∧ len ≤ cap ∧ cap ≤ maxLen ∧ zs.length = cap ∧ (∀ i, i < zs.length → w.cell? (x.add i) = some (.int .i64 (zs.getD i 0))) ∧ ∀ n ∈ zs, (Lit.int .i64 n).wf = true) :
    ∃ xs : List Int, xs.length = len ∧ ArgI w (.slice a len cap) xs ∧ len ≤ 9223372036854775807 := by
  rcases h with ⟨rfl, rfl, rfl, rfl⟩ | ⟨x, rfl, h1, h2, h3, h4, h5⟩
  · exact ⟨[], rfl, .inl ⟨none, 0, rfl, rfl⟩, by omega⟩
  · have h6 : len ≤ 9223372036854775807 := by unfold maxLen at h2; omega
    by_cases h0 : len = 0
    · subst h0
      exact ⟨[], rfl, .inl ⟨some x, cap, rfl, rfl⟩, by omega⟩
    · obtain ⟨b, off, rfl, hc⟩ := ints_at h4 (by omega)
      have hl : (zs.take len).length = len := by rw [List.length_take]; omega
      refine ⟨zs.take len, hl, .inr ⟨b, off, cap, by rw [hl], ⟨World.block_lt_of_cell? w _ (hc 0 (by omega)), fun k hk => ?_⟩⟩, h6⟩
      rw [hl] at hk
      rw [hc k (by omega)]
      congr 2
      unfold gi
      simp [hk]

end Go.Proofs.Ytpcnjkgoehepaaa
