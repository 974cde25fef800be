/- Plain facts: the list of all halves that the program collects, and its greatest. No walk here. -/
import Derived.Test.YtoioafadenniiaaStripP
import Derived.Test.YtoioafadenniiaaOwnF
namespace Go.Proofs.Ytoioafadenniiaa
open Go.RowKit

def Mem (fs : List Rat) (v : Rat) : Prop := ∃ k, k < fs.length ∧ gq fs k = v
theorem gq_app_lt {fs : List Rat} {q : Rat} {k : Nat} (h : k < fs.length) : gq (fs ++ [q]) k = gq fs k := by unfold gq; simp [List.getElem?_append, h]
theorem gq_app_eq {fs : List Rat} {q : Rat} : gq (fs ++ [q]) fs.length = q := by unfold gq; simp
theorem Mem.app {fs : List Rat} {v : Rat} (h : Mem fs v) (q : Rat) : Mem (fs ++ [q]) v := by
  obtain ⟨k, hk, e⟩ := h
  exact ⟨k, by simp; omega, by rw [gq_app_lt hk]; exact e⟩
theorem Mem.last (fs : List Rat) (q : Rat) : Mem (fs ++ [q]) q := ⟨fs.length, by simp, gq_app_eq⟩
theorem Mem.of_app {fs : List Rat} {v q : Rat} (h : Mem (fs ++ [q]) v) : Mem fs v ∨ v = q := by
  obtain ⟨k, hk, e⟩ := h
  by_cases hl : k < fs.length
  · rw [gq_app_lt hl] at e
    exact .inl ⟨k, hl, e⟩
  · have : k = fs.length := by simp at hk; omega
    subst this
    rw [gq_app_eq] at e
    exact .inr e.symm
theorem mxQ_or (fs : List Rat) : ∀ k, ∃ j, j ≤ k ∧ mxQ fs k = gq fs j
  | 0 => ⟨0, Nat.le_refl _, rfl⟩
  | k + 1 => by
    simp only [mxQ]
    split
    · exact ⟨k + 1, Nat.le_refl _, rfl⟩
    · obtain ⟨j, hj, e⟩ := mxQ_or fs k
      exact ⟨j, by omega, e⟩
theorem mxQ_top (fs : List Rat) : ∀ k j, j ≤ k → gq fs j ≤ mxQ fs k
  | 0, j, hj => by
    have : j = 0 := by omega
    subst this
    exact Rat.le_refl
  | k + 1, j, hj => by
    simp only [mxQ]
    by_cases e : j = k + 1
    · subst e
      split
      · exact Rat.le_refl
      · grind
    · have := mxQ_top fs k j (by omega)
      split
      · grind
      · exact this

/-- What the pair a, b and all between give is in the list. -/
def CovM (xs ys : List Int) (fs : List Rat) (a b : Nat) : Prop :=
  (gi xs a = gi xs b → Mem fs (smH ys a b)) ∧ (gi xs a ≠ gi xs b → ∀ c, c < xs.length → c ≠ a → c ≠ b → Btw xs a b c → Mem fs (dvH xs ys a b c))
theorem CovM.app {xs ys : List Int} {fs : List Rat} {a b : Nat} (h : CovM xs ys fs a b) (q : Rat) : CovM xs ys (fs ++ [q]) a b :=
  ⟨fun e => (h.1 e).app q, fun e c h1 h2 h3 h4 => (h.2 e c h1 h2 h3 h4).app q⟩
/-- The list behind i rows, j pairs of the next, k points of the next. -/
structure SI (xs ys : List Int) (fs : List Rat) (i j k : Nat) : Prop where
  st : ∀ q, Mem fs q → StR xs ys q
  z : Mem fs 0
  rows : ∀ a, a < i → ∀ b, b < xs.length → CovM xs ys fs a b
  cols : ∀ b, b < j → CovM xs ys fs i b
  pts : gi xs i ≠ gi xs j → ∀ c, c < k → c ≠ i → c ≠ j → Btw xs i j c → Mem fs (dvH xs ys i j c)
theorem si_start (xs ys : List Int) : SI xs ys [0] 0 0 0 :=
  ⟨fun q h => by
    obtain ⟨k, hk, e⟩ := h
    have : k = 0 := by simp at hk; omega
    subst this
    exact .inl e.symm, ⟨0, by simp, rfl⟩, fun a ha => absurd ha (Nat.not_lt_zero _), fun a ha => absurd ha (Nat.not_lt_zero _), fun _ a ha => absurd ha (Nat.not_lt_zero _)⟩
theorem SI.skip {xs ys : List Int} {fs : List Rat} {i j k : Nat} (h : SI xs ys fs i j k) (hs : k = i ∨ k = j ∨ ¬ Btw xs i j k) : SI xs ys fs i j (k + 1) :=
  ⟨h.st, h.z, h.rows, h.cols, fun hne c hc h1 h2 h3 => by
    by_cases e : c = k
    · subst e
      rcases hs with hs | hs | hs
      · exact absurd hs h1
      · exact absurd hs h2
      · exact absurd h3 hs
    · exact h.pts hne c (by omega) h1 h2 h3⟩
theorem SI.add {xs ys : List Int} {fs : List Rat} {i j k : Nat} (h : SI xs ys fs i j k) (hi : i < xs.length) (hj : j < xs.length) (hk : k < xs.length) (hne : gi xs i ≠ gi xs j) (hb : Btw xs i j k) : SI xs ys (fs ++ [dvH xs ys i j k]) i j (k + 1) :=
  ⟨fun q hq => by
    rcases hq.of_app with hq | rfl
    · exact h.st q hq
    · exact .inr (.inr ⟨i, j, k, hi, hj, hk, hne, hb, rfl⟩),
   h.z.app _, fun a ha b hb => (h.rows a ha b hb).app _, fun b hb => (h.cols b hb).app _, fun hne c hc h1 h2 h3 => by
    by_cases e : c = k
    · subst e; exact Mem.last _ _
    · exact (h.pts hne c (by omega) h1 h2 h3).app _⟩
theorem SI.same {xs ys : List Int} {fs : List Rat} {i j : Nat} (h : SI xs ys fs i j 0) (hi : i < xs.length) (hj : j < xs.length) (he : gi xs i = gi xs j) : SI xs ys (fs ++ [smH ys i j]) i (j + 1) 0 :=
  ⟨fun q hq => by
    rcases hq.of_app with hq | rfl
    · exact h.st q hq
    · exact .inr (.inl ⟨i, j, hi, hj, he, rfl⟩),
   h.z.app _, fun a ha b hb => (h.rows a ha b hb).app _, fun b hb => by
    by_cases e : b = j
    · subst e; exact ⟨fun _ => Mem.last _ _, fun hne => absurd he hne⟩
    · exact (h.cols b (by omega)).app _, fun _ c hc => absurd hc (Nat.not_lt_zero _)⟩
theorem SI.col {xs ys : List Int} {fs : List Rat} {i j n : Nat} (h : SI xs ys fs i j n) (hn : xs.length = n) (hne : gi xs i ≠ gi xs j) : SI xs ys fs i (j + 1) 0 :=
  ⟨h.st, h.z, h.rows, fun b hb => by
    by_cases e : b = j
    · subst e; exact ⟨fun e => absurd e hne, fun hne c hc => h.pts hne c (by omega)⟩
    · exact h.cols b (by omega), fun _ c hc => absurd hc (Nat.not_lt_zero _)⟩
theorem SI.row {xs ys : List Int} {fs : List Rat} {i n : Nat} (h : SI xs ys fs i n 0) (hn : xs.length = n) : SI xs ys fs (i + 1) 0 0 :=
  ⟨h.st, h.z, fun a ha b hb => by
    by_cases e : a = i
    · subst e; exact h.cols b (by omega)
    · exact h.rows a (by omega) b hb, fun b hb => absurd hb (Nat.not_lt_zero _), fun _ c hc => absurd hc (Nat.not_lt_zero _)⟩
theorem SI.top {xs ys : List Int} {fs : List Rat} {n m : Nat} (h : SI xs ys fs n 0 0) (hn : xs.length = n) (hm : fs.length = m) : Top (StR xs ys) (mxQ fs (m - 1)) := by
  have up : ∀ v, Mem fs v → v ≤ mxQ fs (m - 1) := fun v hv => by
    obtain ⟨k, hk, rfl⟩ := hv
    exact mxQ_top fs (m - 1) k (by omega)
  have h0 := up 0 h.z
  have hl : 0 < fs.length := by
    obtain ⟨k, hk, _⟩ := h.z
    omega
  refine ⟨?_, fun q hq => ?_⟩
  · obtain ⟨j, hj, e⟩ := mxQ_or fs (m - 1)
    rw [e]
    exact h.st _ ⟨j, by omega, rfl⟩
  · rcases hq with rfl | ⟨i, k, hi, hk, he, rfl⟩ | ⟨i, k, j, hi, hk, hj, hne, hb, rfl⟩
    · exact h0
    · exact up _ ((h.rows i (by omega) k hk).1 he)
    · by_cases e1 : j = i
      · subst e1; rw [dvH_left]; exact h0
      · by_cases e2 : j = k
        · subst e2; rw [dvH_right hne]; exact h0
        · exact up _ ((h.rows i (by omega) k hk).2 hne j hj e1 e2 hb)
theorem SI.sm {xs ys : List Int} {fs : List Rat} {i j k : Nat} (h : SI xs ys fs i j k) (hp : Pl xs ys 7) : SmAll 1152 48 fs := fun a ha => (h.st _ ⟨a, ha, rfl⟩).sm hp

end Go.Proofs.Ytoioafadenniiaa
