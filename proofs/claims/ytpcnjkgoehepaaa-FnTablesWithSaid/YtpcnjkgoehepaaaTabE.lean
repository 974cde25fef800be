/- Plain facts: the rows that fit, in their order; callbacks at each of them. -/
import Derived.Test.YtpcnjkgoehepaaaTabR
namespace Go.Proofs.Ytpcnjkgoehepaaa

/-- The numbers of a list of naturals. -/
def iN (L : List Nat) : List Int := L.map Int.ofNat
theorem iN_length (L : List Nat) : (iN L).length = L.length := by simp [iN]
/-- The rows of the sum t below cols whose first number is below n. -/
def enF (f : Nat → List (List Nat)) : Nat → List (List Nat)
  | 0 => []
  | n + 1 => enF f n ++ (f n).map (n :: ·)
/-- The rows of the sum t below cols, in the order in which they are made. -/
def en : Nat → List Nat → List (List Nat)
  | t, [] => if t = 0 then [[]] else []
  | t, c :: L => enF (fun v => en (t - v) L) (min t c + 1)
/-- A callback at each of some rows, the first one at i0. -/
def AllC (S : Nat → Prop) (F : FuncId) (args : Value → Array Value) (J : Nat → World → Prop) (i0 : Nat) (rows : List (List Nat)) : Prop :=
  ∀ i r, rows[i]? = some r → CBK S F args J (i0 + i) (iN r)
theorem AllC.left {S : Nat → Prop} {F : FuncId} {args : Value → Array Value} {J : Nat → World → Prop} {i0 : Nat} {A B : List (List Nat)} (h : AllC S F args J i0 (A ++ B)) : AllC S F args J i0 A := by
  intro i r hi
  refine h i r ?_
  have hl : i < A.length := (List.getElem?_eq_some_iff.1 hi).1
  rw [List.getElem?_append_left hl]
  exact hi
theorem AllC.right {S : Nat → Prop} {F : FuncId} {args : Value → Array Value} {J : Nat → World → Prop} {i0 : Nat} {A B : List (List Nat)} (h : AllC S F args J i0 (A ++ B)) : AllC S F args J (i0 + A.length) B := by
  intro i r hi
  have := h (A.length + i) r (by rw [List.getElem?_append_right (by omega), Nat.add_sub_cancel_left]; exact hi)
  rwa [← Nat.add_assoc] at this
theorem enF_len {f : Nat → List (List Nat)} : ∀ n m, n ≤ m → ∃ B, enF f m = enF f n ++ B
  | n, 0, h => ⟨[], by rw [Nat.le_zero.1 h]; simp⟩
  | n, m + 1, h => by
    by_cases e : n = m + 1
    · subst e
      exact ⟨[], by simp⟩
    · obtain ⟨B, hB⟩ := enF_len (f := f) n m (by omega)
      exact ⟨B ++ (f m).map (m :: ·), by rw [enF, hB, List.append_assoc]⟩
theorem enF_mem {f : Nat → List (List Nat)} {r : List Nat} : ∀ n, r ∈ enF f n → ∃ v, v < n ∧ ∃ s, s ∈ f v ∧ r = v :: s
  | 0, h => by simp [enF] at h
  | n + 1, h => by
    rcases List.mem_append.1 h with h | h
    · obtain ⟨v, hv, h2⟩ := enF_mem n h
      exact ⟨v, by omega, h2⟩
    · obtain ⟨s, hs, e⟩ := List.mem_map.1 h
      exact ⟨n, by omega, s, hs, e.symm⟩
theorem en_len : ∀ (cols : List Nat) (t : Nat) (r : List Nat), r ∈ en t cols → r.length = cols.length
  | [], t, r, h => by
    rw [en] at h
    split at h
    · simp at h; rw [h]
    · simp at h
  | c :: L, t, r, h => by
    rw [en] at h
    obtain ⟨v, _, s, hs, e⟩ := enF_mem _ h
    rw [e, List.length_cons, List.length_cons, en_len L _ s hs]

end Go.Proofs.Ytpcnjkgoehepaaa
