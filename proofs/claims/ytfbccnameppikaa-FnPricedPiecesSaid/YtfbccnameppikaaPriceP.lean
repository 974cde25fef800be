/- Plain facts: prices of pieces. No program here. -/
import Derived.Test.YtfbccnameppikaaAtP
import Derived.Test.YtfbccnameppikaaPiecesMiss
namespace Go.Proofs.Ytfbccnameppikaa

/-- The least one up to k, the first such, and its number from 1 on. -/
def pk (F : Nat → Rat) : Nat → Rat × Nat
  | 0 => (F 0, 1)
  | k + 1 => if F (k + 1) < (pk F k).1 then (F (k + 1), k + 2) else pk F k
structure IsPk (F : Nat → Rat) (k : Nat) (v : Rat) (m : Nat) : Prop where
  m1 : 1 ≤ m
  mle : m ≤ k + 1
  at' : F (m - 1) = v
  low : ∀ j, j ≤ k → v ≤ F j
  first : ∀ j, j + 1 < m → v < F j
theorem pk_is (F : Nat → Rat) : ∀ k, IsPk F k (pk F k).1 (pk F k).2
  | 0 => ⟨Nat.le_refl _, Nat.le_refl _, rfl, fun j hj => (by
      have e : j = 0 := Nat.le_zero.1 hj
      rw [e]
      exact Rat.le_refl), fun j hj => by simp [pk] at hj⟩
  | k + 1 => by
    have ih := pk_is F k
    by_cases h : F (k + 1) < (pk F k).1
    · have e : pk F (k + 1) = (F (k + 1), k + 2) := by rw [pk, if_pos h]
      rw [e]
      refine ⟨by show 1 ≤ k + 2; omega, Nat.le_refl _, rfl, fun j hj => ?_, fun j hj => ?_⟩
      · by_cases e2 : j = k + 1
        · subst e2; exact Rat.le_refl
        · have := ih.low j (by omega); show F (k + 1) ≤ F j; grind
      · have := ih.low j (by simp at hj; omega); show F (k + 1) < F j; grind
    · have e : pk F (k + 1) = pk F k := by rw [pk, if_neg h]
      rw [e]
      refine ⟨ih.m1, by have := ih.mle; omega, ih.at', fun j hj => ?_, ih.first⟩
      by_cases e2 : j = k + 1
      · subst e2; grind
      · exact ih.low j (by omega)
theorem IsPk.uniq {F : Nat → Rat} {k : Nat} {v v' : Rat} {m m' : Nat} (h : IsPk F k v m) (g : IsPk F k v' m') : v = v' ∧ m = m' := by
  have h1 := h.low (m' - 1) (by have := g.mle; omega)
  have h2 := g.low (m - 1) (by have := h.mle; omega)
  rw [g.at'] at h1
  rw [h.at'] at h2
  have e := Rat.le_antisymm h1 h2
  subst e
  refine ⟨rfl, ?_⟩
  rcases Nat.lt_trichotomy m m' with hl | hl | hl
  · have := g.first (m - 1) (by have := h.m1; omega)
    rw [h.at'] at this
    grind
  · exact hl
  · have := h.first (m' - 1) (by have := g.m1; omega)
    rw [g.at'] at this
    grind

/-- What exactly, and what at most, so many pieces cost with their prices. -/
def xP (xs : List Int) (pr : Int) (i : Nat) : Rat := lcN misQ xs i xs.length + qd (pr * ((i : Int) + 1)) 1
def yP (xs : List Int) (pr : Int) (i : Nat) : Rat := amN misQ xs i xs.length + qd (pr * ((i : Int) + 1)) 1
theorem qd_le {a b : Int} (h : a ≤ b) : qd a 1 ≤ qd b 1 := by
  have e : qd b 1 = qd a 1 + qd (b - a) 1 := by rw [qd_add _ _ _ _ (by omega) (by omega), qd_eq (by omega) (by omega)]; grind
  have h0 : 0 ≤ qd (b - a) 1 := by unfold qd; exact Rat.divInt_nonneg (by omega) (by omega)
  grind
theorem price_same {xs : List Int} (hv : Rv xs) {pr : Int} (hp : 0 ≤ pr) : pk (xP xs pr) (xs.length - 1) = pk (yP xs pr) (xs.length - 1) := by
  have n0 := hv.n0
  have hE := fun i (hi : i + 1 ≤ xs.length) => by
    have := lcN_least misQ xs i xs.length hi (Nat.le_refl _)
    rwa [List.take_length] at this
  have hA := fun i => by
    have := amN_least misQ xs i xs.length n0 (Nat.le_refl _)
    rwa [List.take_length] at this
  have hle : ∀ i, i + 1 ≤ xs.length → yP xs pr i ≤ xP xs pr i := fun i hi => by
    have := (hE i hi).mono (hA i) fun n hn => by omega
    unfold xP yP
    grind
  have hge : ∀ i, ∃ j, j ≤ i ∧ j + 1 ≤ xs.length ∧ xP xs pr j ≤ yP xs pr i := fun i => by
    obtain ⟨L, l1, l2, l3⟩ := (hA i).got
    have hl := l1.len
    have hl1 : 1 ≤ L.length := by
      rcases Nat.eq_zero_or_pos L.length with e | e
      · have := l1.join
        rw [List.eq_nil_of_length_eq_zero e] at this
        rw [← this] at n0
        simp at n0
      · exact e
    have h1 := (hE (L.length - 1) (by omega)).low L l1 (by omega)
    rw [l3] at h1
    have h2 : qd (pr * (((L.length - 1 : Nat) : Int) + 1)) 1 ≤ qd (pr * ((i : Int) + 1)) 1 := qd_le (Int.mul_le_mul_of_nonneg_left (by omega) hp)
    refine ⟨L.length - 1, by omega, by omega, ?_⟩
    unfold xP yP
    grind
  have h := pk_is (xP xs pr) (xs.length - 1)
  have g := pk_is (yP xs pr) (xs.length - 1)
  have hx : IsPk (yP xs pr) (xs.length - 1) (pk (xP xs pr) (xs.length - 1)).1 (pk (xP xs pr) (xs.length - 1)).2 := by
    generalize (pk (xP xs pr) (xs.length - 1)).1 = v at *
    generalize (pk (xP xs pr) (xs.length - 1)).2 = m at *
    have hm := h.mle
    have hm1 := h.m1
    refine ⟨h.m1, h.mle, ?_, fun j hj => ?_, fun j hj => ?_⟩
    · obtain ⟨j, h1, h2, h3⟩ := hge (m - 1)
      have h4 := h.low j (by omega)
      have h5 := hle (m - 1) (by omega)
      rw [h.at'] at h5
      grind
    · obtain ⟨i, h1, h2, h3⟩ := hge j
      have h4 := h.low i (by omega)
      grind
    · obtain ⟨i, h1, h2, h3⟩ := hge j
      have h4 := h.first i (by omega)
      grind
  obtain ⟨e1, e2⟩ := hx.uniq g
  exact Prod.ext e1 e2
theorem mul_price {pr : Int} (h0 : 0 ≤ pr) (h5 : pr ≤ 500) {i : Nat} (hi : i < 8) : 0 ≤ pr * ((i : Int) + 1) ∧ pr * ((i : Int) + 1) ≤ 4000 := by
  have h1 : 0 ≤ pr * ((i : Int) + 1) := Int.mul_nonneg h0 (by omega)
  have h2 : pr * ((i : Int) + 1) ≤ 500 * 8 := Int.mul_le_mul h5 (by omega) (by omega) (by omega)
  omega
theorem qd_pq {z : Int} (h0 : 0 ≤ z) (h1 : z ≤ 4000) : Pq 3360000 (qd z 1) := ⟨z * 840, by omega, by omega, by rw [qd_eq (by omega) (by omega)]; grind⟩
theorem xP_pq {xs : List Int} (hv : Rv xs) {pr : Int} (h0 : 0 ≤ pr) (h5 : pr ≤ 500) {i : Nat} (hi : i < xs.length) : Pq 12096000 (xP xs pr i) := by
  have n8 := hv.n8
  have := mul_price h0 h5 (i := i) (by omega)
  exact ((lcN_pq misQ_good n8 hv.x (p := i) (by omega) (Nat.le_refl _)).add (qd_pq this.1 this.2)).mono (by omega)
theorem yP_pq {xs : List Int} (hv : Rv xs) {pr : Int} (h0 : 0 ≤ pr) (h5 : pr ≤ 500) {i : Nat} (hi : i < 8) : Pq 12096000 (yP xs pr i) := by
  have n8 := hv.n8
  have := mul_price h0 h5 hi
  have ha := amN_least misQ xs i xs.length hv.n0 (Nat.le_refl _)
  rw [List.take_length] at ha
  exact ((ha.pq misQ_good n8 hv.x).add (qd_pq this.1 this.2)).mono (by omega)
theorem pk_pq {F : Nat → Rat} {B : Int} : ∀ k, (∀ j, j ≤ k → Pq B (F j)) → Pq B (pk F k).1
  | 0, h => h 0 (Nat.le_refl _)
  | k + 1, h => by
    rw [pk]
    split
    · exact h _ (Nat.le_refl _)
    · exact pk_pq k fun j hj => h j (by omega)

end Go.Proofs.Ytfbccnameppikaa
