/- Places by size: how many stand ahead of each, and the order by size; the plain reckoning. No program here. -/
import Derived.Test.YtjkadlmlkcanpaaBySize
namespace Go.Proofs.Ytjkadlmlkcanpaa
open Go.RowKit

/-- a stands ahead of b, by the key, and then by itself. -/
def Lex (f : Int → Int) (a b : Int) : Prop := f a < f b ∨ (f a = f b ∧ a < b)
theorem Lex.asymm {f : Int → Int} {a b : Int} (h : Lex f a b) : ¬ Lex f b a := by
  rcases h with h | ⟨h, h'⟩
  · rintro (g | ⟨g, _⟩) <;> omega
  · rintro (g | ⟨_, g⟩) <;> omega
theorem insK_lex {f : Int → Int} {x : Int} : ∀ {L : List Int}, L.Pairwise (Lex f) → (∀ y ∈ L, y < x) → (insK f x L).Pairwise (Lex f)
  | [], _, _ => by simp [insK]
  | y :: ys, h, hx => by
    have h' := (List.pairwise_cons.1 h).2
    have h1 := (List.pairwise_cons.1 h).1
    have hy := hx y (by simp)
    simp only [insK]
    split
    · rename_i hle
      refine List.pairwise_cons.2 ⟨fun z hz => ?_, insK_lex h' fun z hz => hx z (by simp [hz])⟩
      rcases (insK_mem ys).1 hz with rfl | hz
      · unfold Lex; omega
      · exact h1 z hz
    · rename_i hlt
      refine List.pairwise_cons.2 ⟨fun z hz => ?_, h⟩
      rcases List.mem_cons.1 hz with rfl | hz
      · unfold Lex; omega
      · have := h1 z hz
        unfold Lex at this ⊢
        omega
theorem ordK_lex (f : Int → Int) : ∀ n, (ordK f n).Pairwise (Lex f)
  | 0 => List.Pairwise.nil
  | n + 1 => insK_lex (ordK_lex f n) fun y hy => by
    obtain ⟨k, hk, rfl⟩ := (ordK_mem n).1 hy
    omega
theorem insK_perm {f : Int → Int} {x : Int} : ∀ L : List Int, (insK f x L).Perm (x :: L)
  | [] => List.Perm.refl _
  | y :: ys => by
    have ih := insK_perm (f := f) (x := x) ys
    simp only [insK]
    split
    · exact (ih.cons y).trans (List.Perm.swap x y ys)
    · exact List.Perm.refl _
theorem ordK_perm (f : Int → Int) : ∀ n, (ordK f n).Perm ((List.range n).map Int.ofNat)
  | 0 => List.Perm.refl _
  | n + 1 => by
    rw [List.range_succ, List.map_append]
    exact (insK_perm _).trans (((ordK_perm f n).cons _).trans (List.perm_append_comm (l₁ := [Int.ofNat n])))

def aheadB (xs : List Int) (i k : Nat) : Bool := decide (gi xs k < gi xs i) || (decide (gi xs k = gi xs i) && decide (k < i))
/-- How many of the first n stand ahead of the one i. -/
def plc (xs : List Int) (i : Nat) : Nat → Nat
  | 0 => 0
  | n + 1 => plc xs i n + if aheadB xs i n then 1 else 0
theorem plc_count (xs : List Int) (i : Nat) : ∀ n, plc xs i n = (List.range n).countP (aheadB xs i)
  | 0 => rfl
  | n + 1 => by
    rw [List.range_succ, List.countP_append, plc, plc_count xs i n]
    cases h : aheadB xs i n <;> simp [h]
theorem ahead_lex (xs : List Int) (i k : Nat) : aheadB xs i k = true ↔ Lex (keyOf xs) (k : Int) (i : Int) := by
  simp only [aheadB, Bool.or_eq_true, Bool.and_eq_true, decide_eq_true_eq, Lex, keyOf_nat]
  omega
open Classical in
theorem count_at {f : Int → Int} {A B : List Int} {y : Int} (h : (A ++ y :: B).Pairwise (Lex f)) : (A ++ y :: B).countP (fun a => decide (Lex f a y)) = A.length := by
  obtain ⟨h1, h2, h3⟩ := List.pairwise_append.1 h
  rw [List.countP_append]
  have e1 : A.countP (fun a => decide (Lex f a y)) = A.length := List.countP_eq_length.2 fun a ha => by simpa using h3 a ha y (by simp)
  have e2 : (y :: B).countP (fun a => decide (Lex f a y)) = 0 := List.countP_eq_zero.2 fun a ha => by
    simp only [decide_eq_true_eq]
    rcases List.mem_cons.1 ha with rfl | ha
    · exact fun hh => hh.asymm hh
    · exact fun hh => hh.asymm ((List.pairwise_cons.1 h2).1 a ha)
  omega
open Classical in
/-- The order by size holds at each place the one that so many stand ahead of. -/
theorem plc_ord (xs : List Int) (n r i : Nat) (h : (ordK (keyOf xs) n)[r]? = some (i : Int)) : plc xs i n = r := by
  have hlt : r < (ordK (keyOf xs) n).length := (List.getElem?_eq_some_iff.1 h).1
  have hsp : ordK (keyOf xs) n = (ordK (keyOf xs) n).take r ++ (i : Int) :: (ordK (keyOf xs) n).drop (r + 1) := by
    have e := (List.getElem?_eq_some_iff.1 h).2
    rw [← e, List.getElem_cons_drop, List.take_append_drop]
  have hc := count_at (f := keyOf xs) (A := (ordK (keyOf xs) n).take r) (B := (ordK (keyOf xs) n).drop (r + 1)) (y := (i : Int)) (by rw [← hsp]; exact ordK_lex _ _)
  rw [← hsp, List.length_take, (ordK_perm (keyOf xs) n).countP_eq, List.countP_map] at hc
  rw [plc_count]
  have e : (List.range n).countP (aheadB xs i) = (List.range n).countP ((fun a => decide (Lex (keyOf xs) a (i : Int))) ∘ Int.ofNat) := by
    congr 1
    funext k
    have := ahead_lex xs i k
    cases hb : aheadB xs i k with
    | true => exact (decide_eq_true (this.1 hb)).symm
    | false => exact (decide_eq_false fun hh => by rw [this.2 hh] at hb; cases hb).symm
  rw [e, hc]
  omega
theorem ord_plc (xs : List Int) (n i : Nat) (h : i < n) : (ordK (keyOf xs) n)[plc xs i n]? = some (i : Int) := by
  have hm : (i : Int) ∈ ordK (keyOf xs) n := (ordK_mem n).2 ⟨i, h, rfl⟩
  obtain ⟨r, hr, e⟩ := List.getElem_of_mem hm
  have h1 : (ordK (keyOf xs) n)[r]? = some (i : Int) := by rw [List.getElem?_eq_getElem hr, e]
  rw [plc_ord xs n r i h1]
  exact h1
theorem plc_lt (xs : List Int) (n i : Nat) (h : i < n) : plc xs i n < n := by
  have := (List.getElem?_eq_some_iff.1 (ord_plc xs n i h)).1
  rwa [ordK_length] at this

end Go.Proofs.Ytjkadlmlkcanpaa
