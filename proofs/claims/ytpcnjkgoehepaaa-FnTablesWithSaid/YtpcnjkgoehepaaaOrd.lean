/- Indices by a key, the ones with the same key in order: the plain reckoning. No program here. -/
import Derived.Test.YtpcnjkgoehepaaaBlk
namespace Go.Proofs.Ytpcnjkgoehepaaa
open Go.RowKit

/-- x behind all whose key is not greater. -/
def insK (f : Int → Int) (x : Int) : List Int → List Int
  | [] => [x]
  | y :: ys => if f y ≤ f x then y :: insK f x ys else x :: y :: ys
/-- The order of the indices before n. -/
def ordK (f : Int → Int) : Nat → List Int
  | 0 => []
  | n + 1 => insK f (n : Int) (ordK f n)
/-- m numbers from i on. -/
def tlI (i : Nat) : Nat → List Int
  | 0 => []
  | m + 1 => (i : Int) :: tlI (i + 1) m

theorem insK_length {f : Int → Int} {x : Int} : ∀ L : List Int, (insK f x L).length = L.length + 1
  | [] => rfl
  | y :: ys => by
    simp only [insK]
    split
    · simp [insK_length ys]
    · simp
theorem ordK_length (f : Int → Int) : ∀ n, (ordK f n).length = n
  | 0 => rfl
  | n + 1 => by rw [ordK, insK_length, ordK_length f n]
theorem tlI_length (i : Nat) : ∀ m, (tlI i m).length = m
  | 0 => rfl
  | m + 1 => by simp [tlI, tlI_length (i + 1) m]
theorem insK_mem {f : Int → Int} {x y : Int} : ∀ L : List Int, y ∈ insK f x L ↔ y = x ∨ y ∈ L
  | [] => by simp [insK]
  | z :: zs => by
    have ih := insK_mem (f := f) (x := x) (y := y) zs
    simp only [insK]
    split
    · simp only [List.mem_cons, ih]
      constructor
      · rintro (h | h | h) <;> simp [h]
      · rintro (h | h | h) <;> simp [h]
    · simp
theorem ordK_mem {f : Int → Int} {y : Int} : ∀ n, y ∈ ordK f n ↔ ∃ k : Nat, k < n ∧ y = (k : Int)
  | 0 => by simp [ordK]
  | n + 1 => by
    have ih := ordK_mem (f := f) (y := y) n
    rw [ordK, insK_mem, ih]
    constructor
    · rintro (h | ⟨k, hk, h⟩)
      · exact ⟨n, by omega, h⟩
      · exact ⟨k, by omega, h⟩
    · rintro ⟨k, hk, h⟩
      by_cases hkn : k = n
      · subst hkn; exact .inl h
      · exact .inr ⟨k, by omega, h⟩
/-- The keys do not fall. -/
def Srt (f : Int → Int) (L : List Int) : Prop := L.Pairwise fun a b => f a ≤ f b
theorem insK_srt {f : Int → Int} {x : Int} : ∀ {L : List Int}, Srt f L → Srt f (insK f x L)
  | [], _ => by simp [insK, Srt]
  | y :: ys, h => by
    have h' : Srt f ys := (List.pairwise_cons.1 h).2
    have h1 := (List.pairwise_cons.1 h).1
    simp only [insK]
    split
    · rename_i hle
      refine List.pairwise_cons.2 ⟨fun z hz => ?_, insK_srt h'⟩
      rcases (insK_mem ys).1 hz with rfl | hz
      · exact hle
      · exact h1 z hz
    · rename_i hlt
      refine List.pairwise_cons.2 ⟨fun z hz => ?_, h⟩
      rcases List.mem_cons.1 hz with rfl | hz
      · omega
      · have := h1 z hz; omega
theorem ordK_srt (f : Int → Int) : ∀ n, Srt f (ordK f n)
  | 0 => List.Pairwise.nil
  | n + 1 => insK_srt (ordK_srt f n)
theorem insK_split {f : Int → Int} {x : Int} : ∀ {A B : List Int}, (∀ y ∈ A, f y ≤ f x) → (∀ y ∈ B, f x < f y) → insK f x (A ++ B) = A ++ x :: B
  | [], [], _, _ => rfl
  | [], b :: B, _, hB => by
    have := hB b (by simp)
    simp only [List.nil_append, insK]
    rw [if_neg (by omega)]
  | a :: A, B, hA, hB => by
    have h1 := hA a (by simp)
    have ih := insK_split (A := A) (B := B) (fun y hy => hA y (by simp [hy])) hB
    simp only [List.cons_append, insK]
    rw [if_pos h1, ih]
/-- Of keys that do not fall: if the last one is not greater, none is. -/
theorem srt_last {f : Int → Int} {A B : List Int} {y x : Int} (h : Srt f (A ++ [y] ++ B)) (hy : f y ≤ f x) : ∀ z ∈ A ++ [y], f z ≤ f x := by
  intro z hz
  have h1 : Srt f (A ++ [y]) := (List.pairwise_append.1 h).1
  rcases List.mem_append.1 hz with hz | hz
  · have := (List.pairwise_append.1 h1).2.2 z hz y (by simp)
    omega
  · simp at hz
    subst hz
    exact hy
def cmpI (x y : Int) : Int := if x < y then -1 else if y < x then 1 else 0
theorem cmpI_neg {x y : Int} : cmpI x y < 0 ↔ x < y := by
  unfold cmpI
  split
  · simp [*]
  · split <;> simp <;> omega

theorem ic_swap (A R : List Int) (y x : Int) : ((ic (A ++ y :: x :: R)).set (A.length + 1) (.int .i64 y)).set A.length (.int .i64 x) = ic (A ++ x :: y :: R) := by
  unfold ic
  simp only [List.map_append, List.map_cons]
  rw [List.set_append_right _ _ (by simp), List.set_append_right _ _ (by simp)]
  simp
theorem get_mid (A R : List Int) (x : Int) : (ic (A ++ x :: R))[A.length]? = some (.int .i64 x) := by
  unfold ic
  simp
theorem get_mid1 (A R : List Int) (y x : Int) : (ic (A ++ y :: x :: R))[A.length + 1]? = some (.int .i64 x) := by
  unfold ic
  simp

end Go.Proofs.Ytpcnjkgoehepaaa
